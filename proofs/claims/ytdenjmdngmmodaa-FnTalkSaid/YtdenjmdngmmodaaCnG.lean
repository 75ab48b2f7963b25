/- Connections: a segment is taken. -/
import Derived.Test.YtdenjmdngmmodaaCnF
namespace Go.Proofs.Ytdenjmdngmmodaa
open Go.RowKit
set_option linter.unusedVariables false
set_option linter.unusedSimpArgs false
set_option maxRecDepth 200000
set_option maxHeartbeats 600000

def SgL (B : Nat) (l : List Sg) (v : Value) (w : World) : Prop := ∃ A c, v = .slice A l.length c ∧ l.length ≤ c ∧ Rd w A (l.flatMap (·.cells.toList)) ∧ ∀ ad, A = some ad → B ≤ ad.block ∧ ad.block < w.heap.size
theorem SgL.nil (B : Nat) (w : World) : SgL B [] (.slice none 0 0) w := ⟨none, 0, rfl, Nat.le_refl _, Rd.nil, fun ad e => by cases e⟩
theorem OneSg.toL {B : Nat} {g : Sg} {v : Value} {w : World} (h : OneSg B g v w) : SgL B [g] v w := by
  obtain ⟨b, h1, h2, h3⟩ := h
  exact ⟨some ⟨b, 0, none⟩, 1, h1, Nat.le_refl _, by simpa using Rd.block h3 0, fun ad e => by cases e; exact ⟨h2, (Array.getElem?_eq_some_iff.1 h3).1⟩⟩
theorem SgL.more {B B' : Nat} {l : List Sg} {v : Value} {w : World} (h : SgL B l v w) (hB : B' ≤ B) : SgL B' l v w := by
  obtain ⟨A, c, h1, h2, h3, h4⟩ := h
  exact ⟨A, c, h1, h2, h3, fun ad e => ⟨Nat.le_trans hB (h4 ad e).1, (h4 ad e).2⟩⟩
theorem SgL.below {B : Nat} {l : List Sg} {v : Value} {w w' : World} (h : SgL B l v w) (hb : LeB w w') : SgL B l v w' := by
  obtain ⟨A, c, h1, h2, h3, h4⟩ := h
  exact ⟨A, c, h1, h2, h3.below hb (Nat.le_refl _), fun ad e => ⟨(h4 ad e).1, Nat.lt_of_lt_of_le (h4 ad e).2 hb.size⟩⟩

theorem bits_and (f : Nat) (hf : f < 32) (k : Nat) (hk : k ∈ [1, 2, 4, 16]) : (bits .and .i64 (f : Int) (k : Int) = 0 ∧ Nat.land f k = 0) ∨ (bits .and .i64 (f : Int) (k : Int) = k ∧ Nat.land f k = k) := by
  have h : ∀ f : Nat, f < 32 → ∀ k ∈ [1, 2, 4, 16], (bits .and .i64 (f : Int) ((k : Nat) : Int) = 0 ∧ Nat.land f k = 0) ∨ (bits .and .i64 (f : Int) ((k : Nat) : Int) = ((k : Nat) : Int) ∧ Nat.land f k = k) := by decide +kernel
  exact h f hf k hk
theorem acked_OK {c : Cn} (h : CnOK c) {ack : Nat} (ha : ack < 4294967296) : CnOK (acked c ack) := by
  have h5 := h.una
  have h6 := h.nxt
  have h9 := h.out
  unfold acked
  split
  · rename_i hA
    rcases h.mode with ⟨m1, m2, m3, m4, m5⟩ | ⟨m1, m2, m3, m5⟩ | ⟨m1, m2, m5⟩ | ⟨m1, m2, m3, m5⟩
    · rw [if_pos m1]
      exact ⟨h.mac, h.ip, h.port, h.dst, ha, h.nxt, h.want, h.inn, h.out, .inr (.inl ⟨rfl, m2, m3, by unfold bhd at *; simp only; omega⟩)⟩
    · omega
    · rw [if_neg (by omega)]
      split
      · exact ⟨h.mac, h.ip, h.port, h.dst, ha, h.nxt, h.want, h.inn, by show 0 ≤ 300; omega, .inr (.inr (.inr ⟨rfl, rfl, rfl, by unfold bhd at *; simp only; omega⟩))⟩
      · exact ⟨h.mac, h.ip, h.port, h.dst, ha, h.nxt, h.want, h.inn, by simp; omega, .inr (.inr (.inl ⟨m1, m2, by simp only [ByteArray.size_extract]; unfold bhd at *; omega⟩))⟩
    · omega
  · exact h
def takeC (c : Cn) (g : Sg) : Cn × List Sg :=
  if c.st = 4 then (c, [])
  else if Nat.land g.flags 4 ≠ 0 then (if g.seq = c.want then { c with st := 4, inn := ⟨#[]⟩, out := ⟨#[]⟩, fin := false, una := c.nxt } else c, [])
  else if Nat.land g.flags 2 ≠ 0 then (c, [if c.st = 1 ∧ c.want = onw g.seq 1 then ⟨80, c.port, c.una, c.want, 18, 1000, ⟨#[]⟩⟩ else ⟨80, c.port, c.nxt, c.want, 16, 1000, ⟨#[]⟩⟩])
  else if Nat.land g.flags 16 = 0 then (c, [])
  else if (acked c g.ack).st = 1 ∨ (acked c g.ack).st = 4 ∨ (g.data = ⟨#[]⟩ ∧ Nat.land g.flags 1 = 0) then (acked c g.ack, [])
  else if g.seq = (acked c g.ack).want ∧ (acked c g.ack).inn.size + g.data.size ≤ 300 then
    ({ acked c g.ack with inn := (acked c g.ack).inn ++ g.data, want := onw (acked c g.ack).want (g.data.size + Nat.land g.flags 1) }, [⟨80, (acked c g.ack).port, (acked c g.ack).nxt, onw (acked c g.ack).want (g.data.size + Nat.land g.flags 1), 16, 1000, ⟨#[]⟩⟩])
  else (acked c g.ack, [⟨80, (acked c g.ack).port, (acked c g.ack).nxt, (acked c g.ack).want, 16, 1000, ⟨#[]⟩⟩])
/-- What a method of a connection leaves: its block, the list that it answers. -/
def TkRet (w : World) (b : Nat) (r : Cn × List Sg) (e : Ending) (w' : World) : Prop := ∃ v, e = .returned v ∧ SgL w.heap.size r.2 v w' ∧ w'.heap[b]? = some (.cells r.1.cells 48 (0, 0)) ∧ w.grownBy w' (some b)
theorem onward_is (a n t : Nat) (ha : a < 4294967296) (hn : n ≤ 1000000) (ht : onw a n = t) (w : World) : Calls Try.prog 119 #[.int .i64 a, .int .i64 n] w fun e w' => e = .returned (.int .i64 t) ∧ w = w' := by
  subst ht
  exact onward_ok a n ha hn w
theorem oneIf_t (w : World) : Calls Try.prog 107 #[.bool true] w fun e w' => e = .returned (.int .i64 1) ∧ w = w' := oneIf_ok true w
theorem oneIf_f (w : World) : Calls Try.prog 107 #[.bool false] w fun e w' => e = .returned (.int .i64 0) ∧ w = w' := oneIf_ok false w
theorem str_ne {s : ByteArray} (h : s ≠ ⟨#[]⟩) : s.toList.isEmpty = false := by
  rw [ByteArray.toList_eq]
  obtain ⟨d⟩ := s
  obtain ⟨l⟩ := d
  cases l with
  | nil => exact absurd rfl h
  | cons a r => rfl
/-- A region whose calls only answer, with these values. -/
def qphi (l : List (Nat × Value)) : Nat → Option Spec := fun i => (l.lookup i).map fun u => fun _ v _ => v = u
theorem qphi_st {l : List (Nat × Value)} {Le : World → World → Prop} : ∀ j sp x v w w', qphi l j = some sp → Le w w' → sp x v w → sp x v w' := by
  intro j sp x v w w' hj _ h
  unfold qphi at hj
  cases hl : l.lookup j with
  | none => rw [hl] at hj; cases hj
  | some u => rw [hl] at hj; cases hj; exact h
theorem cells_inn (c : Cn) (x : ByteArray) : c.cells.setIfInBounds 8 (.string x) = Cn.cells { c with inn := x } := rfl
theorem cells_want (c : Cn) (x : Nat) : c.cells.setIfInBounds 7 (.int .i64 x) = Cn.cells { c with want := x } := rfl
theorem Cn.g0 (c : Cn) : c.cells[0]? = some (.string c.mac) := rfl
theorem Cn.g1 (c : Cn) : c.cells[1]? = some (.int .i64 c.ip) := rfl
theorem Cn.g2 (c : Cn) : c.cells[2]? = some (.int .i64 c.port) := rfl
theorem Cn.g3 (c : Cn) : c.cells[3]? = some (.int .i64 c.dst) := rfl
theorem Cn.g4 (c : Cn) : c.cells[4]? = some (.int .i64 c.st) := rfl
theorem Cn.g5 (c : Cn) : c.cells[5]? = some (.int .i64 c.una) := rfl
theorem Cn.g6 (c : Cn) : c.cells[6]? = some (.int .i64 c.nxt) := rfl
theorem Cn.g7 (c : Cn) : c.cells[7]? = some (.int .i64 c.want) := rfl
theorem Cn.g8 (c : Cn) : c.cells[8]? = some (.string c.inn) := rfl
theorem Cn.g9 (c : Cn) : c.cells[9]? = some (.string c.out) := rfl
theorem Cn.g10 (c : Cn) : c.cells[10]? = some (.bool c.fin) := rfl
theorem Sg.g0 (g : Sg) : g.cells[0]? = some (.int .i64 g.src) := rfl
theorem Sg.g1 (g : Sg) : g.cells[1]? = some (.int .i64 g.dst) := rfl
theorem Sg.g2 (g : Sg) : g.cells[2]? = some (.int .i64 g.seq) := rfl
theorem Sg.g3 (g : Sg) : g.cells[3]? = some (.int .i64 g.ack) := rfl
theorem Sg.g4 (g : Sg) : g.cells[4]? = some (.int .i64 g.flags) := rfl
theorem Sg.g5 (g : Sg) : g.cells[5]? = some (.int .i64 g.space) := rfl
theorem Sg.g6 (g : Sg) : g.cells[6]? = some (.string g.data) := rfl
/-- A connection's block and a segment's, within a method that writes the one alone. -/
structure CnW (w0 w : World) (b : Nat) (c : Cn) (gs : Nat) (g : Sg) : Prop where
  cn : w.heap[b]? = some (.cells c.cells 48 (0, 0))
  sg : w.heap[gs]? = some (.cells g.cells 55 (0, 0))
  gr : w0.grownBy w (some b)
  ne : gs ≠ b
theorem CnW.below {w0 w W : World} {b gs : Nat} {c : Cn} {g : Sg} (h : CnW w0 w b c gs g) (hB : Below w.heap.size w W) : CnW w0 W b c gs g :=
  ⟨(hB.block b (Array.getElem?_eq_some_iff.1 h.cn).1).trans h.cn, (hB.block gs (Array.getElem?_eq_some_iff.1 h.sg).1).trans h.sg, grown_trans h.gr (grownBy_of_below hB _), h.ne⟩
theorem CnW.drewN {w0 w : World} {b gs : Nat} {c : Cn} {g : Sg} (h : CnW w0 w b c gs g) (n : Nat) : CnW w0 (w.drewN n) b c gs g := ⟨h.cn, h.sg, grown_drewN h.gr n, h.ne⟩
theorem CnW.store {w0 w : World} {b gs : Nat} {c : Cn} {g : Sg} (h : CnW w0 w b c gs g) (c' : Cn) (k : Nat) (u : Value) (hc : c.cells.setIfInBounds k u = c'.cells) : ∃ w', w.setCell ⟨b, k, none⟩ u = w' ∧ CnW w0 w' b c' gs g :=
  ⟨_, rfl, by rw [blk_set h.cn, hc], (Below.heap_setCell w ⟨b, k, none⟩ u gs h.ne).trans h.sg, grown_own h.gr k u, h.ne⟩
theorem CnW.ccell {w0 w : World} {b gs : Nat} {c : Cn} {g : Sg} (h : CnW w0 w b c gs g) (k : Nat) (u : Value) (hk : c.cells[k]? = some u) : w.cell? ⟨b, k, none⟩ = some u := (blk_cell h.cn k).trans hk
theorem CnW.gcell {w0 w : World} {b gs : Nat} {c : Cn} {g : Sg} (h : CnW w0 w b c gs g) (k : Nat) (u : Value) (hk : g.cells[k]? = some u) : w.cell? ⟨gs, k, none⟩ = some u := (blk_cell h.sg k).trans hk
theorem CnW.free {w0 w : World} {b gs : Nat} {c : Cn} {g : Sg} (h : CnW w0 w b c gs g) (k : Nat) : w.frozen? ⟨b, k, none⟩ = false := blk_free h.cn k
theorem CnW.ret {w w0 : World} {b gs : Nat} {c : Cn} {g : Sg} (h : CnW w0 w b c gs g) (s : Sg) (r : Cn × List Sg) (hr : r = (c, [s])) : TkRet w0 b r (.returned (.slice (some ⟨w.heap.size, 0, none⟩) 1 1)) (w.alloc (.cells s.cells 55)) := by
  subst hr
  have hL : Below w.heap.size w (w.alloc (.cells s.cells 55)) := (Below.refl _ _).alloc (Nat.le_refl _) _
  have h2 := h.below hL
  exact ⟨_, rfl, OneSg.toL ⟨w.heap.size, rfl, h.gr.size, heap_alloc_new _ _⟩, h2.cn, h2.gr⟩
theorem tk_same {w W : World} {b : Nat} {c : Cn} {x : Cn × List Sg} (hb : w.heap[b]? = some (.cells c.cells 48 (0, 0))) (hL : LeB w W) (hx : x = (c, [])) : TkRet w b x (.returned (.slice none 0 0)) W := by
  subst hx
  exact ⟨_, rfl, SgL.nil _ _, (hL.block _ (Array.getElem?_eq_some_iff.1 hb).1).trans hb, grownBy_of_below hL _⟩
end Go.Proofs.Ytdenjmdngmmodaa
