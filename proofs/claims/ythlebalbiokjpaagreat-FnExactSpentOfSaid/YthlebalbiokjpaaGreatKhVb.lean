/- A walk by reckoning, with memory of our own: operations that write, regions, code. No condition: definitions. -/
import Derived.Test.YthlebalbiokjpaaGreatKhVa
namespace Go.Proofs.YthlebalbiokjpaaGreat
open Go.RowKit
set_option linter.unusedVariables false
set_option linter.unusedSimpArgs false

/-- The cells of a value. -/
def Da.cells : Da → Option (List Da)
  | .agg ds => some ds
  | .v (.agg _) => none
  | .v (.tuple _) => none
  | .tup _ => none
  | .any => none
  | d => some [d]
def Da.one : Da → Bool
  | .v x => x.oneCell'
  | .agg _ => false
  | .tup _ => false
  | .any => false
  | _ => true
def toEl (k : Kd) (d : Da) : Option (El k) :=
  match d with
  | .agg ds => un k ds
  | d => un k [d]
def toEls (k : Kd) : List Da → Option (List (El k))
  | [] => some []
  | d :: r => match toEl k d, toEls k r with
    | some x, some l => some (x :: l)
    | _, _ => none
/-- Does this value hold that, memory aside? -/
def zOk : Da → Value → Bool
  | .u8 x, .int .u8 n => n == (x.toNat : Int)
  | .v (.int k n), .int k' n' => decide (k = k') && n == n'
  | .v (.string s), .string s' => decide (s = s')
  | .b c, .bool c' => c == c'
  | .lst _ [], .slice none 0 0 => true
  | _, _ => false
def zOkL : List Da → List Value → Bool
  | [], [] => true
  | d :: r, v :: s => zOk d v && zOkL r s
  | _, _ => false
structure Kt where
  e : TypeId
  k : Kd
  ie : TypeInfo
  z : Value
/-- What a slice's elements are. -/
def kindT (P : Program) (Γ : Ctx) (t : TypeId) : Option Kt :=
  match P.underlying t with
  | some (.slice e) => match Γ.kd e, P.info? e with
    | some k, some ie => match ie.zero with
      | some z => if ie.size == wid k && zOkL (row k (elDef k)) z.cells.toList && decide (ie.bytes ≤ 4096) then some ⟨e, k, ie, z⟩ else none
      | none => none
    | _, _ => none
  | _ => none
/-- The elements that a slice holds. -/
def srcE (P : Program) (H : List Bx) (k : Kd) (tx : TypeId) (d : Da) : Option (List (El k)) :=
  match P.underlying tx, d with
  | some (.slice _), .lst k' l => if h : k' = k then some (h ▸ l) else none
  | some (.slice _), .sl k' b lo n => match H[b]? with
    | some ⟨_, .list k2 l, _, _⟩ => if h : k' = k ∧ k2 = k then some (((h.2 ▸ l : List (El k)).drop lo).take n) else none
    | _ => none
  | some (.slice _), .emp => some []
  | some (.slice _), .v (.slice none 0 0) => some []
  | some .string, .v (.string x) => if h : Kd.byte = k then some (h ▸ x.data.toList) else none
  | _, _ => none
def small0 (n : Nat) : Bool := decide (n ≤ 1073741824)
def Bx.ls (e : TypeId) (k : Kd) (l : List (El k)) : Bx := ⟨e, .list k l, false, false⟩
/-- Which variables can be come to. -/
def reachG (H : List Bx) : Nat → List Nat → List Nat → List Nat
  | 0, _, acc => acc
  | _, [], acc => acc
  | n + 1, b :: r, acc => if acc.contains b then reachG H n r acc else reachG H n ((match H[b]? with | some x => x.ids | none => []) ++ r) (acc ++ [b])
def idx (l : List Nat) (b : Nat) : Option Nat :=
  match l with
  | [] => none
  | a :: r => if a == b then some 0 else (idx r b).map (· + 1)
section
variable (P : Program) (Γ : Ctx) (ev : Operand → Da) (H : List Bx)
def appT (t tx : TypeId) (d e : Da) : Et :=
  match kindT P Γ t with
  | none => .bad
  | some q => match srcE P H q.k tx e with
    | none => .bad
    | some l2 => match d with
      | .emp => .node (small0 l2.length) (.leaf (.sl q.k H.length 0 l2.length, ⟨[], [Bx.ls q.e q.k l2]⟩)) .bad
      | .v (.slice none 0 0) => .node (small0 l2.length) (.leaf (.sl q.k H.length 0 l2.length, ⟨[], [Bx.ls q.e q.k l2]⟩)) .bad
      | .sl k' b 0 n => match H[b]? with
        | some ⟨ty, .list k2 l, false, _⟩ => if h : k' = q.k ∧ k2 = q.k ∧ ty = q.e then match e with
          | .sl _ b2 _ _ => if b2 == b then .node (decide (n + l2.length ≤ l.length)) (.leaf (.sl q.k b 0 (n + l2.length), ⟨[(b, Bx.ls q.e q.k ((h.2.1 ▸ l : List (El q.k)).take n ++ l2 ++ (h.2.1 ▸ l : List (El q.k)).drop (n + l2.length)))], []⟩)) .bad
            else .node (small0 (n + l2.length)) (.leaf (.sl q.k H.length 0 (n + l2.length), ⟨[(b, Bx.gone)], [Bx.ls q.e q.k ((h.2.1 ▸ l : List (El q.k)).take n ++ l2)]⟩)) .bad
          | _ => .node (small0 (n + l2.length)) (.leaf (.sl q.k H.length 0 (n + l2.length), ⟨[(b, Bx.gone)], [Bx.ls q.e q.k ((h.2.1 ▸ l : List (El q.k)).take n ++ l2)]⟩)) .bad
          else .bad
        | _ => .bad
      | _ => .bad
def makT (t : TypeId) (d e : Da) : Et :=
  match kindT P Γ t, d, e with
  | some q, .v (.int _ a), .v (.int _ c) => .node (decide (0 ≤ a)) (.node (decide (a ≤ c)) (.node (decide (c ≤ 1073741824)) (.leaf (.sl q.k H.length 0 a.toNat, ⟨[], [Bx.ls q.e q.k (List.replicate a.toNat (elDef q.k))]⟩)) .bad) .bad) .bad
  | _, _, _ => .bad
def bldT (t : TypeId) (n : Nat) (is : List Nat) (ds : List Da) : Et :=
  match kindT P Γ t, shutAs H ds with
  | some q, some (es, fz) => if is == List.range n && decide (n ≤ 65536) then match toEls q.k es with
    | some l => .leaf (.sl q.k H.length 0 n, ⟨frzE H fz, [Bx.ls q.e q.k l]⟩)
    | none => .bad
    else .bad
  | _, _ => .bad
/-- Parts laid into a struct's cells. -/
def layD (fs : List Field) (ds : List Da) : List (Nat × Da) → Option (List Da)
  | [] => some ds
  | (i, d) :: r => match fs[i]?, d.cells with
    | some f, some es => match P.info? f.type with
      | some fi => if fi.size == es.length && decide (f.offset + es.length ≤ ds.length) then layD fs (ds.take f.offset ++ es ++ ds.drop (f.offset + es.length)) r else none
      | none => none
    | _, _ => none
def bsT (t : TypeId) (ps : List (Nat × Da)) : Vt :=
  match P.underlying t, P.info? t with
  | some (.struct fs), some i => match i.zero with
    | some z => bif fs.toList.all (fun f => (P.info? f.type).isSome) then match layD P fs.toList (z.cells.toList.map .v) ps with
      | some ds => lf (.agg ds)
      | none => .bad
      else .bad
    | none => .bad
  | _, _ => .bad
def clrT (t : TypeId) (d : Da) : Et :=
  match kindT P Γ t, d with
  | some q, .sl k' b lo n => match H[b]? with
    | some ⟨ty, .list k2 l, false, _⟩ => if h : k' = q.k ∧ k2 = q.k ∧ ty = q.e then .leaf (.v (.tuple #[]), ⟨[(b, Bx.ls q.e q.k ((h.2.1 ▸ l : List (El q.k)).take lo ++ List.replicate n (elDef q.k) ++ (h.2.1 ▸ l : List (El q.k)).drop (lo + n)))], []⟩) else .bad
    | _ => .bad
  | _, _ => .bad
def callX (f : FuncId) (ds : List Da) : Et :=
  CheckFast.force H.length fun nH =>
  let rs := reachG H 200 (Da.idsL ds) []
  let ρ := idx rs
  match lookX f (rs.map fun b => (H.getD b Bx.gone).ren ρ) (Da.renL ρ ds) Γ.x with
  | some (q, H', r) =>
    let σ : Nat → Option Nat := fun j => if j < rs.length then rs[j]? else some (nH + (j - rs.length))
    let lv : Et := .leaf (r.ren σ, ⟨rs.zip ((H'.take rs.length).map (Bx.ren σ)), (H'.drop rs.length).map (Bx.ren σ)⟩)
    if decide (rs.length ≤ H'.length) && rs.all (fun b => decide (b < nH)) then match q with
      | .yes => lv
      | .when q => .node q lv .bad
      else .bad
  | none => .bad
def callF (f : FuncId) (ds : List Da) : Et :=
  match shutAs H ds with
  | some (es, fz) => match look f es Γ.c with
    | some (.yes, r) => .leaf (r, ⟨bif r.flat then [] else frzE H fz, []⟩)
    | some (.when q, r) => .node q (.leaf (r, ⟨bif r.flat then [] else frzE H fz, []⟩)) .bad
    | none => callX Γ H f ds
  | none => callX Γ H f ds
/-- An operation. -/
def opT (o : Oper) : Et :=
  match o.op with
  | .alloc t => match P.info? t with
    | some i => match i.zero with
      | some z => .leaf (.box H.length 0, ⟨[], [⟨t, .cells (z.cells.toList.map .v), false, false⟩]⟩)
      | none => .bad
    | none => .bad
  | .box t x => match (ev x).cells with
    | some ds => .leaf (.box H.length 0, ⟨[], [⟨t, .cells ds, false, false⟩]⟩)
    | none => .bad
  | .store t x y => match ev x with
    | .box b off => match H[b]?, P.info? t, (ev y).cells with
      | some ⟨ty, .cells cs, false, dp⟩, some i, some ds => if (i.size == ds.length) && decide (off + ds.length ≤ cs.length) && ds.all Da.one then .leaf (.v (.tuple #[]), ⟨[(b, ⟨ty, .cells (cs.take off ++ ds ++ cs.drop (off + ds.length)), false, dp⟩)], []⟩) else .bad
      | _, _, _ => .bad
    | .elt k b j off => match H[b]?, P.info? t, (ev y).cells.bind (closeL H) with
      | some ⟨ty, .list k2 l, false, _⟩, some i, some (ds, fz) => if h : k2 = k then
        if (i.size == ds.length) && decide (off + ds.length ≤ wid k) && !fz.contains b then match un k ((row k (h ▸ (l.getD j default))).take off ++ ds ++ (row k (h ▸ (l.getD j default))).drop (off + ds.length)) with
          | some x => .leaf (.v (.tuple #[]), ⟨frzE H fz ++ [(b, ⟨ty, .list k ((h ▸ l : List (El k)).set j x), false, false⟩)], []⟩)
          | none => .bad
          else .bad
        else .bad
      | _, _, _ => .bad
    | _ => .bad
  | .buildSlice t n ps => bldT P Γ H t n (ps.toList.map (·.1)) (ps.toList.map fun p => ev p.2)
  | .makeSlice t x y => makT P Γ H t (ev x) (ev y)
  | .call ⟨.value f, xs, _⟩ => match ev f with
    | .clo (.func g) first caps => callF Γ H g (first ++ xs.toList.map ev ++ caps)
    | _ => .bad
  | .call ⟨.builtin .append, xs, ts⟩ => match ts.toList, xs.toList with
    | [t, tx], [x, y] => appT P Γ H t tx (ev x) (ev y)
    | _, _ => .bad
  | .call ⟨.builtin .clear, xs, ts⟩ => match ts.toList, xs.toList with
    | [t], [x] => clrT P Γ H t (ev x)
    | _, _ => .bad
  | .build t ps => (bsT P t (ps.toList.map fun p => (p.1, ev p.2))).bind fun x => .leaf (x.1, Eff.no)
  | _ => (valT P ev H o).bind fun x => .leaf (x.1, Eff.no)
end
/-- Is the operation wanted? Its guard's truth is kept. -/
def wantT (s : St) (ops : Array Oper) (o : Oper) : Tree (Bool × St) :=
  match o.guard with
  | none => .leaf (true, s)
  | some (j, want) => match (ops[j]?).bind (·.dst) with
    | none => .bad
    | some t => match s.ts[t]? with
      | some (.v (.tuple _)) => .leaf (false, s)
      | some d => br d fun x => .leaf (x == want, { s with ts := s.ts.set t (.v (.bool x)) })
      | none => .bad
instance : Inhabited (Da × St) := ⟨(.any, default)⟩
instance : Inhabited (Da × Eff) := ⟨(.any, Eff.no)⟩
instance : Inhabited (Bool × St) := ⟨(false, default)⟩
def St.app (s : St) (e : Eff) : St := { s with H := e.app s.H }
/-- A region's operations, in the order of the text. -/
def opsT (P : Program) (Γ : Ctx) (ops : Array Oper) : List Oper → St → Tree St
  | [], s => .leaf s
  | o :: r, s => (wantT s ops o).bind fun x => match x.1 with
    | true => (opT P Γ (evO x.2.ts) x.2.H o).bind fun y => opsT P Γ ops r ((x.2.app y.2).put o.dst y.1)
    | false => opsT P Γ ops r (x.2.put o.dst (.v (.tuple #[])))
/-! ## The same, faster: what is put is laid ahead of the frame, and found there first -/
def spineH {α : Type} : List Bx → (List Bx → α) → α
  | [], k => k []
  | a :: r, k => spineH r fun t => k (a :: t)
theorem spineH_eq {α : Type} : ∀ (l : List Bx) (k : List Bx → α), spineH l k = k l
  | [], _ => rfl
  | a :: r, k => by rw [spineH, spineH_eq r]
def Da.frc {α : Type} (d : Da) (k : Da → α) : α :=
  match d with
  | .v x => k (.v x)
  | .b c => k (.b c)
  | .nb c => k (.nb c)
  | .box q o => k (.box q o)
  | .sl k' q l n => k (.sl k' q l n)
  | .elt k' q l n => k (.elt k' q l n)
  | _ => k d
theorem Da.frc_eq {α : Type} (d : Da) (k : Da → α) : d.frc k = k d := by unfold Da.frc; split <;> rfl
theorem Tree.bind_assoc {α β γ : Type} (k : α → Tree β) (k' : β → Tree γ) : ∀ t : Tree α, (t.bind k).bind k' = t.bind fun a => (k a).bind k'
  | .leaf _ => rfl
  | .node c t f => by simp only [Tree.bind, Tree.bind_assoc k k' t, Tree.bind_assoc k k' f]
  | .obl p t => by simp only [Tree.bind, Tree.bind_assoc k k' t]
  | .bad => rfl
theorem blt_t {a b : Nat} (h : Nat.blt a b = true) : a < b := Nat.le_of_ble_eq_true h
theorem blt_f {a b : Nat} (h : Nat.blt a b = false) : ¬ a < b := fun hl => by
  have : Nat.blt a b = true := Nat.ble_eq_true_of_le hl
  rw [h] at this; cases this
structure Fs where
  ts : List Da
  pd : List (Nat × Da)
  n : Nat
  H : List Bx
def laid (ts : List Da) : List (Nat × Da) → List Da
  | [] => ts
  | p :: r => (laid ts r).set p.1 p.2
def Fs.st (f : Fs) : St := ⟨laid f.ts f.pd, f.H⟩
def Fs.ok (f : Fs) : Prop := f.n = f.ts.length ∧ ∀ p ∈ f.pd, p.1 < f.n
theorem laid_len (ts : List Da) : ∀ pd : List (Nat × Da), (laid ts pd).length = ts.length
  | [] => rfl
  | p :: r => by rw [laid, List.length_set, laid_len ts r]
def getF (ts : List Da) (t : Nat) : List (Nat × Da) → Da
  | [] => ts.getD t .any
  | p :: r => match Nat.beq p.1 t with
    | true => p.2
    | false => getF ts t r
theorem getF_eq (ts : List Da) (t : Nat) : ∀ pd : List (Nat × Da), (∀ p ∈ pd, p.1 < ts.length) → getF ts t pd = (laid ts pd).getD t .any
  | [], _ => rfl
  | p :: r, h => by
    have ih := getF_eq ts t r fun q hq => h q (List.mem_cons_of_mem _ hq)
    have hp : p.1 < (laid ts r).length := by rw [laid_len]; exact h p (List.mem_cons_self ..)
    rw [getF, laid, List.getD_eq_getElem?_getD, List.getElem?_set]
    cases hb : Nat.beq p.1 t with
    | true => rw [if_pos (Nat.eq_of_beq_eq_true hb), if_pos hp]; rfl
    | false => rw [if_neg (Nat.ne_of_beq_eq_false hb), ← List.getD_eq_getElem?_getD]; exact ih
def evF (f : Fs) : Operand → Da
  | .tmp t => getF f.ts t f.pd
  | .const x => ofC x
  | .global _ => .any
  | .func g => .clo (.func g) [] []
theorem evF_eq {f : Fs} (h : f.ok) : evF f = evO f.st.ts := by
  funext x
  cases x with
  | tmp t => exact getF_eq f.ts t f.pd fun p hp => by rw [← h.1]; exact h.2 p hp
  | _ => rfl
def Fs.putK {α : Type} (f : Fs) (dst : Option Tmp) (d : Da) (k : Fs → α) : α :=
  match f with
  | ⟨ts, pd, n, H⟩ => spineH H fun H => match dst with
    | none => k ⟨ts, pd, n, H⟩
    | some t => d.frc fun d => match Nat.blt t n with
      | true => k ⟨ts, (t, d) :: pd, n, H⟩
      | false => k ⟨ts, pd, n, H⟩
theorem Fs.putK_eq {α : Type} {f : Fs} (h : f.ok) (dst : Option Tmp) (d : Da) {k : Fs → α} {k' : St → α} (hk : ∀ f', Fs.ok f' → k f' = k' f'.st) : f.putK dst d k = k' (f.st.put dst d) := by
  obtain ⟨ts, pd, n, H⟩ := f
  unfold Fs.putK
  simp only [spineH_eq]
  cases dst with
  | none => exact hk _ h
  | some t =>
    simp only [Da.frc_eq]
    cases hb : Nat.blt t n with
    | true =>
      have hlt : t < n := blt_t hb
      exact hk ⟨ts, (t, d) :: pd, n, H⟩ ⟨h.1, fun p hp => by
        rcases List.mem_cons.1 hp with rfl | hp
        · exact hlt
        · exact h.2 p hp⟩
    | false =>
      have hlt : ¬ t < n := blt_f hb
      refine (hk _ h).trans (congrArg k' ?_)
      simp only [Fs.st, St.put]
      rw [List.set_eq_of_length_le (Nat.le_trans (Nat.le_of_eq ((laid_len _ _).trans h.1.symm)) (Nat.not_lt.1 hlt))]
def wantK {β : Type} (f : Fs) (ops : Array Oper) (o : Oper) (k : Bool → Fs → Tree β) : Tree β :=
  match o.guard with
  | none => k true f
  | some (j, want) => match (ops[j]?).bind (·.dst) with
    | none => .bad
    | some t => match Nat.blt t f.n with
      | true => match getF f.ts t f.pd with
        | .v (.tuple _) => k false f
        | d => br d fun x => f.putK (some t) (.v (.bool x)) fun f => k (x == want) f
      | false => .bad
theorem br_bind {α β : Type} (d : Da) (k : Bool → Tree α) (k' : α → Tree β) : (br d k).bind k' = br d fun x => (k x).bind k' := by
  unfold br
  split <;> rfl
theorem wantK_eq {β : Type} {f : Fs} (h : f.ok) (ops : Array Oper) (o : Oper) {k : Bool → Fs → Tree β} {k' : Bool × St → Tree β} (hk : ∀ b f', Fs.ok f' → k b f' = k' (b, f'.st)) : wantK f ops o k = (wantT f.st ops o).bind k' := by
  unfold wantK wantT
  cases hg : o.guard with
  | none => exact hk _ _ h
  | some jw =>
    obtain ⟨j, want⟩ := jw
    simp only []
    cases hj : (ops[j]?).bind (·.dst) with
    | none => rfl
    | some t =>
      simp only []
      have hl : (laid f.ts f.pd).length = f.n := by rw [laid_len, h.1]
      cases hb : Nat.blt t f.n with
      | false =>
        have hlt : ¬ t < f.n := blt_f hb
        rw [show f.st.ts[t]? = none from List.getElem?_eq_none (Nat.le_trans (Nat.le_of_eq hl) (Nat.not_lt.1 hlt))]
        rfl
      | true =>
        have hlt : t < f.n := blt_t hb
        have e : f.st.ts[t]? = some (getF f.ts t f.pd) := by
          rw [getF_eq f.ts t f.pd fun p hp => by rw [← h.1]; exact h.2 p hp, List.getD_eq_getElem?_getD]
          show (laid f.ts f.pd)[t]? = _
          rw [List.getElem?_eq_getElem (by rw [hl]; exact hlt)]; rfl
        rw [e]
        have hd : ∀ d, (br d fun x => f.putK (some t) (.v (.bool x)) fun f => k (x == want) f) = (br d fun x => (.leaf (x == want, { f.st with ts := f.st.ts.set t (.v (.bool x)) }) : Tree (Bool × St))).bind k' := fun d => by
          rw [br_bind]
          congr 1
          funext x
          exact Fs.putK_eq h _ _ (k' := fun s => k' (x == want, s)) fun f' hf' => hk _ f' hf'
        generalize getF f.ts t f.pd = d
        cases d with
        | v x => cases x with
          | tuple vs => exact hk _ _ h
          | _ => exact hd _
        | _ => exact hd _
def Fs.app (f : Fs) (e : Eff) : Fs := ⟨f.ts, f.pd, f.n, e.app f.H⟩
/-- The overlay, sorted by place, the latest alone; then laid in one go. -/
def lk : List (Nat × Da) → Nat → Option Da
  | [], _ => none
  | p :: r, i => if p.1 = i then some p.2 else lk r i
theorem laid_get (ts : List Da) (i : Nat) : ∀ pd : List (Nat × Da), (laid ts pd)[i]? = (ts[i]?).map fun a => (lk pd i).getD a
  | [] => by simp [laid, lk]
  | p :: r => by
    rw [laid, List.getElem?_set, laid_len, lk, laid_get ts i r]
    by_cases h : p.1 = i
    · rw [if_pos h, if_pos h]
      by_cases hl : p.1 < ts.length
      · rw [if_pos hl, List.getElem?_eq_getElem (by omega)]; rfl
      · rw [if_neg hl, List.getElem?_eq_none (by omega)]; rfl
    · rw [if_neg h, if_neg h]
def ascF (lo : Nat) : List (Nat × Da) → Prop
  | [] => True
  | p :: r => lo ≤ p.1 ∧ ascF (p.1 + 1) r
theorem lk_low : ∀ (q : List (Nat × Da)) {lo i : Nat}, ascF lo q → i < lo → lk q i = none
  | [], _, _, _, _ => rfl
  | p :: r, lo, i, h, hi => by
    rw [lk, if_neg (by have := h.1; omega)]
    exact lk_low r h.2 (by have := h.1; omega)
def ins (u : Nat) (d : Da) : List (Nat × Da) → List (Nat × Da)
  | [] => [(u, d)]
  | p :: r => match Nat.blt u p.1 with
    | true => (u, d) :: p :: r
    | false => match Nat.beq u p.1 with
      | true => p :: r
      | false => p :: ins u d r
theorem ins_asc (u : Nat) (d : Da) : ∀ (q : List (Nat × Da)) {lo : Nat}, ascF lo q → lo ≤ u → ascF lo (ins u d q)
  | [], _, _, h => ⟨h, trivial⟩
  | p :: r, lo, h, hu => by
    rw [ins]
    cases hb : Nat.blt u p.1 with
    | true => exact ⟨hu, blt_t hb, h.2⟩
    | false =>
      have h1 := blt_f hb
      cases he : Nat.beq u p.1 with
      | true => exact h
      | false =>
        have h2 := Nat.ne_of_beq_eq_false he
        exact ⟨h.1, ins_asc u d r h.2 (by omega)⟩
theorem lk_ins (u : Nat) (d : Da) (i : Nat) : ∀ (q : List (Nat × Da)) {lo : Nat}, ascF lo q → lk (ins u d q) i = (lk q i).or (if u = i then some d else none)
  | [], _, _ => by simp [ins, lk]
  | p :: r, lo, h => by
    rw [ins]
    cases hb : Nat.blt u p.1 with
    | true =>
      have h1 := blt_t hb
      simp only []
      rw [show lk ((u, d) :: p :: r) i = if u = i then some d else lk (p :: r) i from rfl]
      by_cases e : u = i
      · rw [if_pos e, if_pos e, lk_low (p :: r) (lo := p.1) ⟨Nat.le_refl _, h.2⟩ (by omega)]; rfl
      · rw [if_neg e, if_neg e]; simp
    | false =>
      cases he : Nat.beq u p.1 with
      | true =>
        have h2 := Nat.eq_of_beq_eq_true he
        simp only [lk]
        by_cases e : p.1 = i
        · rw [if_pos e]; rfl
        · rw [if_neg e, if_neg (by omega)]; simp
      | false =>
        simp only [lk]
        by_cases e : p.1 = i
        · rw [if_pos e, if_pos e]; rfl
        · rw [if_neg e, if_neg e]; exact lk_ins u d i r h.2
def srt : List (Nat × Da) → List (Nat × Da) → List (Nat × Da)
  | [], q => q
  | p :: r, q => srt r (ins p.1 p.2 q)
theorem srt_ok (i : Nat) : ∀ (pd q : List (Nat × Da)), ascF 0 q → ascF 0 (srt pd q) ∧ lk (srt pd q) i = (lk q i).or (lk pd i)
  | [], q, h => ⟨h, by simp [srt, lk]⟩
  | p :: r, q, h => by
    obtain ⟨h1, h2⟩ := srt_ok i r (ins p.1 p.2 q) (ins_asc _ _ _ h (Nat.zero_le _))
    refine ⟨h1, ?_⟩
    rw [srt, h2, lk_ins _ _ _ _ h, lk]
    cases lk q i with
    | some x => rfl
    | none => by_cases e : p.1 = i <;> simp [e]
def mrgK {α : Type} : List Da → Nat → List (Nat × Da) → (List Da → α) → α
  | [], _, _, k => k []
  | a :: r, i, q, k => match q with
    | [] => k (a :: r)
    | p :: q' => match Nat.beq p.1 i with
      | true => mrgK r (i + 1) q' fun l => k (p.2 :: l)
      | false => mrgK r (i + 1) (p :: q') fun l => k (a :: l)
theorem mrgK_eq {α : Type} : ∀ (ts : List Da) (i : Nat) (q : List (Nat × Da)), ascF i q → ∃ l : List Da, (∀ k : List Da → α, mrgK ts i q k = k l) ∧ ∀ j, l[j]? = (ts[j]?).map fun a => (lk q (i + j)).getD a
  | [], i, q, _ => ⟨[], fun _ => rfl, fun j => by simp⟩
  | a :: r, i, [], _ => ⟨a :: r, fun _ => rfl, fun j => by simp [lk]⟩
  | a :: r, i, p :: q', h => by
    cases hb : Nat.beq p.1 i with
    | true =>
      have e := Nat.eq_of_beq_eq_true hb
      obtain ⟨l, h1, h2⟩ := mrgK_eq (α := α) r (i + 1) q' (by rw [← e]; exact h.2)
      refine ⟨p.2 :: l, fun k => ?_, fun j => ?_⟩
      · rw [mrgK]; simp only [hb]; exact h1 _
      · cases j with
        | zero => simp [lk, e]
        | succ j =>
          rw [List.getElem?_cons_succ, List.getElem?_cons_succ, h2 j, lk, if_neg (by omega), show i + (j + 1) = i + 1 + j from by omega]
    | false =>
      have e := Nat.ne_of_beq_eq_false hb
      have hlo : i + 1 ≤ p.1 := by have := h.1; omega
      obtain ⟨l, h1, h2⟩ := mrgK_eq (α := α) r (i + 1) (p :: q') ⟨hlo, h.2⟩
      refine ⟨a :: l, fun k => ?_, fun j => ?_⟩
      · rw [mrgK]; simp only [hb]; exact h1 _
      · cases j with
        | zero => rw [lk_low (p :: q') (lo := i + 1) ⟨hlo, h.2⟩ (by omega)]; simp
        | succ j => rw [List.getElem?_cons_succ, List.getElem?_cons_succ, h2 j, show i + (j + 1) = i + 1 + j from by omega]
def matK {α : Type} (pd : List (Nat × Da)) (ts : List Da) (k : List Da → α) : α := mrgK ts 0 (srt pd []) k
theorem matK_eq {α : Type} (pd : List (Nat × Da)) (ts : List Da) (k : List Da → α) : matK pd ts k = k (laid ts pd) := by
  obtain ⟨l, h1, h2⟩ := mrgK_eq (α := α) ts 0 (srt pd []) (srt_ok 0 pd [] trivial).1
  rw [matK, h1]
  congr 1
  refine List.ext_getElem? fun j => ?_
  rw [h2, laid_get, Nat.zero_add, (srt_ok j pd [] trivial).2]
  rfl
/-- As opsT, behind it k. -/
def opsF {β : Type} (P : Program) (Γ : Ctx) (ops : Array Oper) (k : St → Tree β) : List Oper → Fs → Tree β
  | [], f => matK f.pd f.ts fun l => k ⟨l, f.H⟩
  | o :: r, f => wantK f ops o fun b f => match b with
    | true => (opT P Γ (evF f) f.H o).bind fun y => (f.app y.2).putK o.dst y.1 fun f => opsF P Γ ops k r f
    | false => f.putK o.dst (.v (.tuple #[])) fun f => opsF P Γ ops k r f
theorem opsF_eq {β : Type} {P : Program} {Γ : Ctx} (ops : Array Oper) (k : St → Tree β) : ∀ (l : List Oper) (f : Fs), f.ok → opsF P Γ ops k l f = (opsT P Γ ops l f.st).bind k
  | [], f, _ => matK_eq _ _ _
  | o :: r, f, h => by
    rw [opsF, opsT, Tree.bind_assoc]
    refine wantK_eq h ops o fun b f' h' => ?_
    cases b with
    | true =>
      simp only []
      rw [Tree.bind_assoc, evF_eq h']
      show Tree.bind _ _ = Tree.bind (opT P Γ (evO f'.st.ts) f'.H o) _
      congr 1
      funext y
      exact Fs.putK_eq (f := f'.app y.2) h' o.dst y.1 (k' := fun s => (opsT P Γ ops r s).bind k) fun f3 h3 => opsF_eq ops k r f3 h3
    | false =>
      exact Fs.putK_eq h' o.dst _ (k' := fun s => (opsT P Γ ops r s).bind k) fun f3 h3 => opsF_eq ops k r f3 h3
/-- A region's operations from a state. -/
def regF {β : Type} (P : Program) (Γ : Ctx) (ops : Array Oper) (s : St) (k : St → Tree β) : Tree β :=
  match s with
  | ⟨ts, H⟩ => CheckFast.force ts.length fun n => opsF P Γ ops k ops.toList ⟨ts, [], n, H⟩
theorem regF_eq {β : Type} (P : Program) (Γ : Ctx) (ops : Array Oper) (s : St) (k : St → Tree β) : regF P Γ ops s k = (opsT P Γ ops ops.toList s).bind k := by
  obtain ⟨ts, H⟩ := s
  show CheckFast.force ts.length (fun n => opsF P Γ ops k ops.toList ⟨ts, [], n, H⟩) = _
  rw [CheckFast.force_eq]
  exact opsF_eq ops k ops.toList ⟨ts, [], ts.length, H⟩ ⟨rfl, fun p hp => by cases hp⟩
/-! ## Regions that draw their order -/
/-- Which variables an operation came to, and which it turned; is all named that has to be? how many there are behind it. -/
structure Ft where
  tch : List Nat
  wr : List Nat
  ok : Bool
  n : Nat
def opIds (ev : Operand → Da) (o : Oper) : List Nat := o.op.operands.toList.flatMap fun x => (ev x).ids
def touchO (H : List Bx) (ev : Operand → Da) (o : Oper) : List Nat := reachG H 200 (opIds ev o) []
/-- Only these variables. -/
def maskI (q : List Nat) : Nat → List Bx → List Bx
  | _, [] => []
  | i, x :: r => (if q.contains i then x else Bx.gone) :: maskI q (i + 1) r
def nwIds (nH : Nat) (e : Eff) : List Nat := (List.range e.nw.length).map (nH + ·)
def ftOf (H : List Bx) (oi tc : List Nat) (d : Da) (e : Eff) : Ft :=
  let wr := e.wr.map (·.1) ++ nwIds H.length e
  let tch := tc ++ (d.ids ++ (wr ++ (e.wr.flatMap (·.2.ids) ++ e.nw.flatMap Bx.ids)))
  ⟨tch, wr, tc.all (fun b => decide (b < H.length) && (H.getD b Bx.gone).ids.all fun c => tc.contains c) && (oi.all fun c => tc.contains c) && (e.wr.all fun p => tc.contains p.1) && tch.all (fun c => decide (c < H.length + e.nw.length)), H.length + e.nw.length⟩
def disj (a b : List Nat) : Bool := a.all fun x => !b.contains x
/-- Does each pair that may come either way leave the other's variables alone? -/
def ftsOk (B : List Nat) (fs : List Ft) : Bool :=
  fs.zipIdx.all fun x => x.1.ok && (fs.take x.2).zipIdx.all fun y => ancB B x.2 y.2 || (disj y.1.wr x.1.tch && disj x.1.wr y.1.tch)
/-- Its operations in the order of the text, each alone with what it comes to. -/
def opsD (P : Program) (Γ : Ctx) (ops : Array Oper) : List Oper → St → List Ft → Tree (St × List Ft)
  | [], s, fs => .leaf (s, fs)
  | o :: r, s, fs => (wantT s ops o).bind fun x => match x.1 with
    | true => (opT P Γ (evO x.2.ts) (maskI (touchO x.2.H (evO x.2.ts) o) 0 x.2.H) o).bind fun y => opsD P Γ ops r ((x.2.app y.2).put o.dst y.1) (fs ++ [ftOf x.2.H (opIds (evO x.2.ts) o) (touchO x.2.H (evO x.2.ts) o) y.1 y.2])
    | false => opsD P Γ ops r (x.2.put o.dst (.v (.tuple #[]))) (fs ++ [⟨[], [], true, x.2.H.length⟩])
/-- The last one that p holds of. -/
def lastP (p : Nat → Bool) : Nat → Option Nat
  | 0 => none
  | i + 1 => if p i then some i else lastP p i
def dstIs (ops : List Oper) (t j : Nat) : Bool := (ops.getD j default).dst == some t
/-- An operation waits for what it reads. -/
def waitsB (ops : List Oper) (B : List Nat) : Bool :=
  ops.zipIdx.all fun x => (x.1.looksAt ops.toArray).all fun t => match lastP (dstIs ops t) x.2 with
    | some j => ancB B x.2 j
    | none => true
/-- Each number of a list worked out first. -/
def forceL {α : Type} : List Nat → (List Nat → α) → α
  | [], k => k []
  | n :: r, k => CheckFast.force n fun v => forceL r fun t => k (v :: t)
theorem forceL_eq {α : Type} : ∀ (l : List Nat) (k : List Nat → α), forceL l k = k l
  | [], _ => rfl
  | n :: r, k => by rw [forceL, CheckFast.force_eq, forceL_eq r]
def openOk (ops : Array Oper) (B : List Nat) : Bool := lexOkB ops.toList B && waitsB ops.toList B
instance : Inhabited (St × List Ft) := ⟨(default, [])⟩
def drawT {β : Type} (P : Program) (Γ : Ctx) (ops : Array Oper) (s : St) (k : St → Tree β) : Tree β :=
  forceL (CheckFast.beforeF ops).toList fun B => bif openOk ops B then (opsD P Γ ops ops.toList s []).bind fun x => bif ftsOk B x.2 then k x.1 else .bad else .bad
/-! ## Code -/
/-- How a code ends. -/
inductive Out where
  | nrm (s : St)
  | exit (n : Nat) (s : St)
  | ret (s : St)
instance : Inhabited Out := ⟨.ret default⟩
/-- What a variable is to be from now on: one that is there; what a cell of one points to; what a result is, or a part of one; none. -/
inductive Src0 where
  | id (b : Nat)
  | cell (b p : Nat)
  | res (j : Nat)
  | part (j p : Nat)
  | none
def Da.whole : Da → Option Nat
  | .sl _ q 0 _ => some q
  | .box q 0 => some q
  | _ => Option.none
def Src0.get (H : List Bx) (rs : List Da) : Src0 → Option Nat
  | .id b => some b
  | .cell b p => match H[b]? with
    | some ⟨_, .cells ds, _, _⟩ => (ds[p]?).bind Da.whole
    | _ => Option.none
  | .res j => (rs[j]?).bind Da.whole
  | .part j p => match rs[j]? with
    | some (.agg ds) => (ds[p]?).bind Da.whole
    | _ => Option.none
  | .none => Option.none
/-- What is kept: these temporaries, these variables, some of them only read from now on. -/
structure Keep where
  ts : List Nat
  hs : List Src0
  fz : List Nat
/-- What is known of a loop: the state at its head, how it ends. -/
structure LoopSpec where
  keep : List Nat
  hs : List Src0
  s : St
  T : Tree Out
  fz : List Nat
def LoopSpec.k (l : LoopSpec) : Keep := ⟨l.keep, l.hs, l.fz⟩
def idxO (l : List (Option Nat)) (b : Nat) : Option Nat :=
  match l with
  | [] => none
  | a :: r => if a == some b then some 0 else (idxO r b).map (· + 1)
/-- As List.mapIdx, cell by cell. -/
def mapI {α β : Type} (f : Nat → α → β) : Nat → List α → List β
  | _, [] => []
  | i, a :: r => f i a :: mapI f (i + 1) r
theorem mapI_get {α β : Type} (f : Nat → α → β) : ∀ (l : List α) (i j : Nat), (mapI f i l)[j]? = (l[j]?).map (f (i + j))
  | [], _, _ => by simp [mapI]
  | a :: r, i, 0 => by simp [mapI]
  | a :: r, i, j + 1 => by rw [mapI, List.getElem?_cons_succ, List.getElem?_cons_succ, mapI_get f r, show i + 1 + j = i + (j + 1) from by omega]
def noDup : List (Option Nat) → Bool
  | [] => true
  | none :: r => noDup r
  | some a :: r => !r.contains (some a) && noDup r
def renB (H : List Bx) (ρ : List (Option Nat)) (fz : List Nat) (i : Nat) (o : Option Nat) : Bx :=
  match o with
  | some b => match (H.getD b Bx.gone).ren (idxO ρ) with
    | ⟨ty, c, fr, dp⟩ => ⟨ty, c, fr || fz.contains i, dp⟩
  | none => Bx.gone
/-- The first n keep their names, or are given up. -/
def okHs : Nat → Nat → List Src0 → Bool
  | 0, _, _ => true
  | _ + 1, _, [] => false
  | n + 1, i, x :: r => (match x with | .id b => b == i | .none => true | _ => false) && okHs n (i + 1) r
def Keep.rho (k : Keep) (rs : List Da) (s : St) : List (Option Nat) := k.hs.map (Src0.get s.H rs)
def okKeep (n0 : Nat) (k : Keep) (rs : List Da) (s : St) : Bool := okHs n0 0 k.hs && noDup (k.rho rs s)
def weaken (k : Keep) (s : St) : St :=
  let ρ := k.rho [] s
  ⟨mapI (fun i d => if k.ts.contains i then d.ren (idxO ρ) else .any) 0 s.ts, mapI (renB s.H ρ k.fz) 0 ρ⟩
def nLoops : Code → Nat
  | .seq x y => nLoops x + nLoops y
  | .cond _ x y => nLoops x + nLoops y
  | .block _ c => nLoops c
  | .loop c => nLoops c + 1
  | .scope c => nLoops c
  | _ => 0
/-- The loops of a code, in the order of the text. -/
def loopsIn : Code → List Code
  | .seq x y => loopsIn x ++ loopsIn y
  | .cond _ x y => loopsIn x ++ loopsIn y
  | .block _ c => loopsIn c
  | .loop c => c :: loopsIn c
  | .scope c => loopsIn c
  | _ => []
def evC (P : Program) (Γ : Ctx) (L : Nat → St → Option LoopSpec) (n0 : Nat) : Code → Nat → St → Tree Out
  | .skip, _, s => .leaf (.nrm s)
  | .region _ ops false, _, s => regF P Γ ops s fun s => .leaf (.nrm s)
  | .region _ ops true, _, s => drawT P Γ ops s fun s => .leaf (.nrm s)
  | .seq x y, n, s => (evC P Γ L n0 x n s).bind fun o => match o with
    | .nrm s => evC P Γ L n0 y (n + nLoops x) s
    | o => .leaf o
  | .cond c x y, n, s => br (evO s.ts c) fun t => match t with
    | true => evC P Γ L n0 x n s
    | false => evC P Γ L n0 y (n + nLoops x) s
  | .block id c, n, s => (evC P Γ L n0 c n s).bind fun o => match o with
    | .exit k s => if k == id then .leaf (.nrm s) else .leaf (.exit k s)
    | o => .leaf o
  | .loop c, n, s => match L n s with
    | some l => bif okKeep n0 l.k [] s then .obl (weaken l.k s = l.s) l.T else .bad
    | none => .bad
  | .exit n, _, s => .leaf (.exit n s)
  | .ret, _, s => .leaf (.ret s)
  | .scope c, n, s => evC P Γ L n0 c n s
  | _, _, _ => .bad
end Go.Proofs.YthlebalbiokjpaaGreat
