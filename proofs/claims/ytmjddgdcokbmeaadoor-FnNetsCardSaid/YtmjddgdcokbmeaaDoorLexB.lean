/- Regions of open order whose operations make memory and turn none that was there. -/
import Derived.Test.YtmjddgdcokbmeaaDoorBytA
import Derived.Test.YtmjddgdcokbmeaaDoorLex
namespace Go.Proofs.YtmjddgdcokbmeaaDoor
open Go.RowKit
set_option linter.unusedVariables false
set_option linter.unusedSimpArgs false
set_option maxRecDepth 20000

def sb (s : ByteArray) : List UInt8 := s.data.toList
theorem sb_append (a b : ByteArray) : sb (a ++ b) = sb a ++ sb b := by unfold sb; rw [ByteArray.data_append, Array.toList_append]
theorem sb_len (a : ByteArray) : (sb a).length = a.size := Array.length_toList
theorem bstr_sb (a : ByteArray) : bstr (sb a) = a := rfl
theorem sb_bstr (l : List UInt8) : sb (bstr l) = l := rfl

def LeB (w w' : World) : Prop := Below w.heap.size w w'
def JB (w0 : World) (_ : Nat) (w : World) : Prop := Below w0.heap.size w0 w
theorem JB.mono {w0 : World} (m : Nat) (w : World) (h : JB w0 (m + 1) w) : JB w0 m w := h
theorem JB.step {w0 w w' : World} {m : Nat} (h : JB w0 (m + 1) w) (hb : Below w.heap.size w w') : JB w0 m w' := Below.trans h (hb.mono h.size)
theorem own_base {w : World} {B B' : Nat} {e : TypeId} {size : Nat} {v : Value} {n : Nat} {xs : List Value} (h : w.ownsRow B e size v n xs) (hB : B' ≤ B) : w.ownsRow B' e size v n xs := by
  refine ⟨h.1, ?_⟩
  rcases h.2 with h2 | ⟨g, cap, cur, e1, hb, r⟩
  · exact .inl h2
  · exact .inr ⟨g, cap, cur, e1, by omega, r⟩
theorem below_setRow {B g : Nat} {w0 w : World} (hb : Below B w0 w) (hBg : B ≤ g) (cs : Array Value) : Below B w0 (w.setRow g cs) :=
  hb.trans ⟨rfl, rfl, rfl, by simp [World.setRow], fun k hk => setRow_other w g k cs (by omega)⟩
section
variable {P : Program} {fn : Func} {p u q : Tmp} {T E d : Nat} {tmps : Array Value} {w : World} {b : Nat} {cs : Array Value} {fr : Nat × Nat} {ds : TypeDesc}
theorem run_loadVar_blk (hb : w.heap[b]? = some (.cells cs E fr)) (hu : P.underlying T = some ds) (hd : ds.isRow = true) (hi : (P.info? T).map (·.size) = some cs.size) : (loadVar T ⟨b, 0, none⟩).run P w = .ok (.agg cs) w := by
  have := run_loadVar_mid (P := P) w b 0 T cs.toList ds (fun j v hv => by rw [Nat.zero_add, cell_of_row w b j cs E fr hb]; simpa using hv) hu hd (by simpa using hi)
  simpa using this
theorem ret_cell (h : fn.results = #[.cell p T]) (hp : tmps.getD p undef = .pointer (some ⟨b, 0, none⟩)) (hb : w.heap[b]? = some (.cells cs E fr)) (hu : P.underlying T = some ds) (hd : ds.isRow = true) (hi : (P.info? T).map (·.size) = some cs.size) :
    (results fn tmps).run P w = .ok (.agg cs) w := by
  have hp' : tmps[p]?.getD undef = .pointer (some ⟨b, 0, none⟩) := by rw [← Array.getD_eq_getD_getElem?]; exact hp
  simp only [results, h]
  simp [Sem.run_bind, Result.andThen, hp', asAddr, run_loadVar_blk hb hu hd hi]
theorem ret_cell_tmp (h : fn.results = #[.cell p T, .tmp u]) (hp : tmps.getD p undef = .pointer (some ⟨b, 0, none⟩)) (hb : w.heap[b]? = some (.cells cs E fr)) (hu : P.underlying T = some ds) (hd : ds.isRow = true) (hi : (P.info? T).map (·.size) = some cs.size) :
    (results fn tmps).run P w = .ok (.tuple #[.agg cs, tmps.getD u undef]) w := by
  have hp' : tmps[p]?.getD undef = .pointer (some ⟨b, 0, none⟩) := by rw [← Array.getD_eq_getD_getElem?]; exact hp
  simp only [results, h]
  simp [Sem.run_bind, Result.andThen, hp', asAddr, run_loadVar_blk hb hu hd hi]
end
/-- A slice that reads as bs. -/
def BsSp (bs : List UInt8) : Spec := fun _ v w => ∃ A c, v = .slice A bs.length c ∧ bs.length ≤ c ∧ Rd w A (bs.map bV)
theorem BsSp.st {bs : List UInt8} {x : Array Value} {v : Value} {w w' : World} (hL : LeB w w') (h : BsSp bs x v w) : BsSp bs x v w' := by
  obtain ⟨A, c, h1, h2, h3⟩ := h
  exact ⟨A, c, h1, h2, h3.below hL (Nat.le_refl _)⟩
theorem BsSp.rd {bs : List UInt8} {x : Array Value} {A : Option Addr} {n c : Nat} {w : World} (h : BsSp bs x (.slice A n c) w) : Rd w A (bs.map bV) := by
  obtain ⟨A', c', h1, _, h3⟩ := h
  injection h1 with h1 _ _
  subst h1
  exact h3
/-- .. but that a row of these very cells may have been marked as a constant's. -/
def LeK (kc : Array Value) (w w' : World) : Prop := w.heap.size ≤ w'.heap.size ∧ ∀ k, k < w.heap.size → w'.heap[k]? = w.heap[k]? ∨ ∃ E fr fr', w.heap[k]? = some (.cells kc E fr) ∧ w'.heap[k]? = some (.cells kc E fr')
theorem LeK.of {kc : Array Value} {w w' : World} (h : Below w.heap.size w w') : LeK kc w w' := ⟨h.size, fun k hk => .inl (h.block k hk)⟩
theorem LeB.tr {a b c : World} (h : LeB a b) (k : LeB b c) : LeB a c := Below.trans h (Below.mono k h.size)
theorem LeB.of {w w' : World} (h : Below w.heap.size w w') : LeB w w' := h
theorem LeK.cell {kc : Array Value} {w w' : World} (h : LeK kc w w') {a : Addr} {u : Value} (hc : w.cell? a = some u) : w'.cell? a = some u := by
  rcases h.2 a.block (World.block_lt_of_cell? w a hc) with h1 | ⟨E, fr, fr', h1, h2⟩
  · exact (World.cell?_of_block h1).trans hc
  · unfold World.cell? at hc ⊢
    rw [h1] at hc
    rw [h2]
    exact hc
theorem BsSp.stK {kc : Array Value} {bs : List UInt8} {x : Array Value} {v : Value} {w w' : World} (hL : LeK kc w w') (h : BsSp bs x v w) : BsSp bs x v w' := by
  obtain ⟨A, c, h1, h2, h3⟩ := h
  exact ⟨A, c, h1, h2, fun j u hu => by obtain ⟨ad, e, hc⟩ := h3 j u hu; exact ⟨ad, e, hL.cell hc⟩⟩
/-- A new row of the operands. -/
def ArgRow (E : TypeId) : Spec := fun x v w => ∃ gg fr, v = .slice (some ⟨gg, 0, none⟩) x.size x.size ∧ w.heap[gg]? = some (.cells x E fr)
theorem ArgRow.st {E : TypeId} {x : Array Value} {v : Value} {w w' : World} (hL : LeB w w') (h : ArgRow E x v w) : ArgRow E x v w' := by
  obtain ⟨gg, fr, h1, h3⟩ := h
  exact ⟨gg, fr, h1, (hL.block gg (Array.getElem?_eq_some_iff.1 h3).1).trans h3⟩
theorem ArgRow.stK {kc : Array Value} {E : TypeId} {x : Array Value} {v : Value} {w w' : World} (hL : LeK kc w w') (h : ArgRow E x v w) : ArgRow E x v w' := by
  obtain ⟨gg, fr, h1, h3⟩ := h
  rcases hL.2 gg (Array.getElem?_eq_some_iff.1 h3).1 with e | ⟨E', f1, f2, e1, e2⟩
  · exact ⟨gg, fr, h1, e.trans h3⟩
  · rw [h3] at e1
    injection e1 with e1
    injection e1 with e1 e3 _
    subst e1 e3
    exact ⟨gg, f2, h1, e2⟩
theorem ArgRow.rd {E : TypeId} {x : Array Value} {b n : Nat} {w : World} (h : ArgRow E x (.slice (some ⟨b, 0, none⟩) n n) w) : Rd w (some ⟨b, 0, none⟩) x.toList := by
  obtain ⟨gg, fr, h1, h3⟩ := h
  injection h1 with h1
  injection h1 with h1
  injection h1 with h1
  subst h1
  simpa using Rd.block h3 0

/-- []byte(s). -/
theorem conv_sb (w : World) (s : ByteArray) : ∃ v w', (convert 9 22 (.string s)).run Tryd.prog w = .ok v w' ∧ BsSp (sb s) #[] v w' ∧ Below w.heap.size w w' := by
  refine ⟨_, _, Lib.run_convert_string_bytes w 9 22 5 s Tryd.underlying9 Tryd.underlying22 Tryd.underlying5, ?_, ?_⟩
  · refine ⟨some ⟨w.heap.size, 0, none⟩, _, by rw [sb_len], by rw [sb_len]; exact grownCap_ge w s.size 0 _, fun j u hu => ⟨_, rfl, ?_⟩⟩
    rw [List.getElem?_map] at hu
    cases hb : (sb s)[j]? with
    | none => rw [hb] at hu; cases hu
    | some b =>
      rw [hb] at hu
      cases hu
      have hj : j < s.size := by rw [← sb_len]; exact (List.getElem?_eq_some_iff.1 hb).1
      have e : (⟨w.heap.size, 0, none⟩ : Addr).add j = ⟨w.heap.size, j, none⟩ := by unfold Addr.add; split <;> simp_all
      rw [e, Lib.bytesWorld_cell w _ s j hj]
      unfold sb at hb
      simp [bV, List.getD, hb]
  · exact ⟨rfl, rfl, rfl, by rw [Lib.bytesWorld_size]; omega, fun k hk => Lib.bytesWorld_at_old w _ s k hk⟩

section
variable {ops : Array Oper} {φ : Nat → Option Spec} {B : List Nat} {w0 : World} {Le : World → World → Prop}
/-- []byte(s) in such a region. -/
theorem lexB_conv {i : Nat} {o : Oper} {r : List (Nat × Oper)} {fin : Act → Facts → Prop} {F : Facts} {a : Act} {x : Operand} {s : ByteArray} (hg : o.guard = none) (hφ : φ i = some (BsSp (sb s))) (ho : o.op = .convert 9 22 x) (hx : a.eval x = .string s) (hF : F i = none) (hLe : ∀ {w w'}, Below w.heap.size w w' → Le w w')
    (h2 : ∀ A c, (sb s).length ≤ c → lexR Tryd.prog ops (JB w0) Le φ B r fin (upd F i (#[.string s], .slice A (sb s).length c)) (a.put o.dst (.slice A (sb s).length c))) : lexR Tryd.prog ops (JB w0) Le φ B ((i, o) :: r) fin F a := by
  have hxa : argsOf a o = #[.string s] := by unfold argsOf; rw [ho]; simp [Op.operands, hx]
  refine lex_eff hg hφ (fun m W hJ hF => ?_) (fun v hP => ?_)
  · obtain ⟨v, w', h1, h2, h3⟩ := conv_sb W s
    exact gives_value (v := v) (by unfold execOp; simp [ho, hx, h1]) ⟨hJ.step h3, hLe h3, h2⟩
  · rw [hxa] at hP ⊢
    obtain ⟨m, w, hJ, hf⟩ := hP
    obtain ⟨A, c, rfl, hc, _⟩ := hf i rfl _ _ _ (by simp [upd]; exact ⟨rfl, rfl⟩) hφ
    exact h2 A c hc
/-- A new row of the operands. -/
theorem lexB_row {i : Nat} {o : Oper} {r : List (Nat × Oper)} {fin : Act → Facts → Prop} {F : Facts} {a : Act} {E : TypeId} (x : Array Value) (hg : o.guard = none) (hφ : φ i = some (ArgRow E)) (hx : argsOf a o = x) (hLe : ∀ {w w'}, Below w.heap.size w w' → Le w w')
    (hrun : ∀ w, (execOp a.eval o).run Tryd.prog w = .ok (.value (.slice (some ⟨w.heap.size, 0, none⟩) x.size x.size)) (w.alloc (.cells x E)))
    (h2 : ∀ b, lexR Tryd.prog ops (JB w0) Le φ B r fin (upd F i (x, .slice (some ⟨b, 0, none⟩) x.size x.size)) (a.put o.dst (.slice (some ⟨b, 0, none⟩) x.size x.size))) : lexR Tryd.prog ops (JB w0) Le φ B ((i, o) :: r) fin F a := by
  refine lex_eff hg hφ (fun m W hJ hF => ?_) (fun v hP => ?_)
  · have hb : Below W.heap.size W (W.alloc (.cells x E)) := (Below.refl _ _).alloc (Nat.le_refl _) _
    exact gives_value (hrun W) ⟨hJ.step hb, hLe hb, _, _, by rw [hx], by rw [hx]; exact heap_alloc_new _ _⟩
  · rw [hx] at hP ⊢
    obtain ⟨m, w, hJ, hf⟩ := hP
    obtain ⟨b, fr, rfl, _⟩ := hf i rfl _ _ _ (by simp [upd]; exact ⟨rfl, rfl⟩) hφ
    exact h2 b
end

/-- []byte of a constant: its new row is marked. -/
theorem run_mark (w : World) (b n c : Nat) (C : Array Value) (fr : Nat × Nat) (hb : w.heap[b]? = some (.cells C 5 fr)) : ∃ w', (convert 22 22 (.slice (some ⟨b, 0, none⟩) n c)).run Tryd.prog w = .ok (.slice (some ⟨b, 0, none⟩) n c) w' ∧
    w'.heap.size = w.heap.size ∧ (∃ fr', w'.heap[b]? = some (.cells C 5 fr')) ∧ (∀ k, k ≠ b → w'.heap[k]? = w.heap[k]?) ∧ w'.os = w.os ∧ w'.tape = w.tape ∧ w'.output = w.output := by
  have hsh : w.shape? b = some (5, C.size) := by unfold World.shape?; rw [hb]
  refine ⟨w.freeze ⟨b, C.size, none⟩ 1, ?_, ?_, ?_, ?_, rfl, rfl, rfl⟩
  · simp [convert, run_underlying Tryd.underlying22, run_underlying Tryd.underlying5, markStringish, hsh]
  · simp [World.freeze]
  · have hlt := (Array.getElem?_eq_some_iff.1 hb).1
    have hv := (Array.getElem?_eq_some_iff.1 hb).2
    obtain ⟨lo, hi⟩ := fr
    refine ⟨if lo == hi then (C.size, C.size + 1) else (min lo C.size, max hi (C.size + 1)), ?_⟩
    simp [World.freeze, Array.getElem?_modify, hb]
  · intro k hk
    simp [World.freeze, Array.getElem?_modify, Ne.symm hk]

/-- A new row of the constant's cells, known to lie from base on. -/
def ConstRow (base : Nat) (kc : Array Value) : Spec := fun _ v w => ∃ gg fr, v = .slice (some ⟨gg, 0, none⟩) kc.size kc.size ∧ base ≤ gg ∧ w.heap[gg]? = some (.cells kc 5 fr)
theorem ConstRow.stK {base : Nat} {kc : Array Value} {x : Array Value} {v : Value} {w w' : World} (hL : LeK kc w w') (h : ConstRow base kc x v w) : ConstRow base kc x v w' := by
  obtain ⟨gg, fr, h1, h2, h3⟩ := h
  rcases hL.2 gg (Array.getElem?_eq_some_iff.1 h3).1 with e | ⟨E', f1, f2, e1, e2⟩
  · exact ⟨gg, fr, h1, h2, e.trans h3⟩
  · rw [h3] at e1
    injection e1 with e1
    injection e1 with _ e3 _
    subst e3
    exact ⟨gg, f2, h1, h2, e2⟩
theorem ConstRow.rd {base : Nat} {kc : Array Value} {x : Array Value} {b n : Nat} {w : World} (h : ConstRow base kc x (.slice (some ⟨b, 0, none⟩) n n) w) : Rd w (some ⟨b, 0, none⟩) kc.toList := by
  obtain ⟨gg, fr, h1, h2, h3⟩ := h
  injection h1 with h1
  injection h1 with h1
  injection h1 with h1
  subst h1
  simpa using Rd.block h3 0
def MarkSp : Spec := fun x v _ => x = #[v]
section
variable {ops : Array Oper} {φ : Nat → Option Spec} {B : List Nat} {w0 : World} {kc : Array Value}
/-- The constant's row, and its mark. -/
theorem lexK_const {i : Nat} {o : Oper} {r : List (Nat × Oper)} {fin : Act → Facts → Prop} {F : Facts} {a : Act} (hg : o.guard = none) (hφ : φ i = some (ConstRow w0.heap.size kc)) (hF : F i = none)
    (hrun : ∀ w, (execOp a.eval o).run Tryd.prog w = .ok (.value (.slice (some ⟨w.heap.size, 0, none⟩) kc.size kc.size)) (w.alloc (.cells kc 5)))
    (h2 : ∀ b x, lexR Tryd.prog ops (JB w0) (LeK kc) φ B r fin (upd F i (x, .slice (some ⟨b, 0, none⟩) kc.size kc.size)) (a.put o.dst (.slice (some ⟨b, 0, none⟩) kc.size kc.size))) : lexR Tryd.prog ops (JB w0) (LeK kc) φ B ((i, o) :: r) fin F a := by
  refine lex_eff' hg hφ (fun _ _ _ _ h => h) (fun m W hJ hf => ?_) (fun v x hh => ?_) hF
  · have hb : Below W.heap.size W (W.alloc (.cells kc 5)) := (Below.refl _ _).alloc (Nat.le_refl _) _
    exact gives_value (hrun W) ⟨hJ.step hb, LeK.of hb, _, _, rfl, hJ.size, heap_alloc_new _ _⟩
  · obtain ⟨_, _, -, ⟨b, fr, rfl, -, -⟩, -⟩ := hh
    exact h2 b x
theorem lexK_mark {i j : Nat} {o : Oper} {r : List (Nat × Oper)} {fin : Act → Facts → Prop} {F : Facts} {a : Act} {x : Operand} {b n : Nat} {xj : Array Value} (hg : o.guard = none) (hφ : φ i = some MarkSp)
    (ho : o.op = .convert 22 22 x) (hx : a.eval x = .slice (some ⟨b, 0, none⟩) n n) (hj : ancB B i j = true) (hFj : F j = some (xj, .slice (some ⟨b, 0, none⟩) n n)) (hφj : φ j = some (ConstRow w0.heap.size kc))
    (h2 : lexR Tryd.prog ops (JB w0) (LeK kc) φ B r fin (upd F i (#[.slice (some ⟨b, 0, none⟩) n n], .slice (some ⟨b, 0, none⟩) n n)) (a.put o.dst (.slice (some ⟨b, 0, none⟩) n n))) : lexR Tryd.prog ops (JB w0) (LeK kc) φ B ((i, o) :: r) fin F a := by
  have hxa : argsOf a o = #[.slice (some ⟨b, 0, none⟩) n n] := by unfold argsOf; rw [ho]; simp [Op.operands, hx]
  refine lex_eff hg hφ (fun m W hJ hf => ?_) (fun v hP => ?_)
  · obtain ⟨gg, fr, e1, h1, h3⟩ := hf j hj _ _ _ hFj hφj
    injection e1 with e1 e4 _
    injection e1 with e1
    injection e1 with e1
    subst e1 e4
    obtain ⟨w', hr, hs, ⟨fr', hb'⟩, hk, h5, h6, h7⟩ := run_mark W b kc.size kc.size kc fr h3
    refine gives_value (v := .slice (some ⟨b, 0, none⟩) kc.size kc.size) (w' := w') (by unfold execOp; simp [ho, hx, hr]) ⟨Below.trans hJ ⟨h5, h6, h7, by omega, fun k hkl => hk k (by omega)⟩, ⟨by omega, fun k _ => ?_⟩, hxa⟩
    by_cases hkb : k = b
    · subst hkb; exact .inr ⟨_, _, _, h3, hb'⟩
    · exact .inl (hk k hkb)
  · rw [hxa] at hP ⊢
    obtain ⟨m, w, hJ, hf⟩ := hP
    have e := hf i rfl _ _ _ (by simp [upd]; exact ⟨rfl, rfl⟩) hφ
    obtain rfl : Value.slice (some ⟨b, 0, none⟩) n n = v := by unfold MarkSp at e; simpa using e
    exact h2
end
end Go.Proofs.YtmjddgdcokbmeaaDoor
