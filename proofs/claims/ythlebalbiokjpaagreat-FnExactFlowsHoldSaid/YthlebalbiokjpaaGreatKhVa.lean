/- A walk by reckoning, with memory of our own: what a function does to data (Da). No condition: definitions, and what they mean for memory. -/
import Derived.Test.YthlebalbiokjpaaGreatKh01
import Derived.Deep.AppendSrc
namespace Go.Proofs.YthlebalbiokjpaaGreat
open Go.RowKit
set_option linter.unusedVariables false
set_option linter.unusedSimpArgs false

/-- Blocks that may still turn. -/
abbrev Ex := Nat → Prop
/-- Where a variable of ours lies: its block (if it has one), and of a slice of ours: for how many elements there is room, how many there are, the blocks of what its elements hold. -/
structure Loc where
  blk : Nat
  on : Bool
  cap : Nat
  len : Nat
  sub : List Nat
instance : Inhabited Loc := ⟨⟨0, false, 0, 0, []⟩⟩
def Loc.foot (L : Loc) : List Nat := (bif L.on then [L.blk] else []) ++ L.sub
/-- A value holds this, as memory is; m: where our own variables lie. -/
inductive Sees (U : Ex) (W : World) : List Loc → Value → Da → Prop
  | v (m : List Loc) (x : Value) : Sees U W m x (.v x)
  | u8 (m : List Loc) (x : UInt8) : Sees U W m (.int .u8 x.toNat) (.u8 x)
  | b (m : List Loc) (c : Bool) : Sees U W m (.bool c) (.b c)
  | nb (m : List Loc) (c : Bool) : Sees U W m (.bool !c) (.nb c)
  | any (m : List Loc) (x : Value) : Sees U W m x .any
  | agg (m : List Loc) (vs : Array Value) (ds : List Da) : vs.size = ds.length → (∀ (i : Nat) (v : Value) (d : Da), vs[i]? = some v → ds[i]? = some d → Sees U W m v d) → Sees U W m (.agg vs) (.agg ds)
  | tup (m : List Loc) (vs : Array Value) (ds : List Da) : vs.size = ds.length → (∀ (i : Nat) (v : Value) (d : Da), vs[i]? = some v → ds[i]? = some d → Sees U W m v d) → Sees U W m (.tuple vs) (.tup ds)
  | clo (m : List Loc) (fn : Fn) (fs cs : Array Value) (df dc : List Da) : fs.size = df.length → (∀ (i : Nat) (v : Value) (d : Da), fs[i]? = some v → df[i]? = some d → Sees U W m v d) → cs.size = dc.length → (∀ (i : Nat) (v : Value) (d : Da), cs[i]? = some v → dc[i]? = some d → Sees U W m v d) → Sees U W m (.func fn fs cs) (.clo fn df dc)
  | box (m : List Loc) (b off : Nat) (L : Loc) : m[b]? = some L → Sees U W m (.pointer (some ⟨L.blk, off, none⟩)) (.box b off)
  | sl (m : List Loc) (k : Kd) (b lo n : Nat) (L : Loc) (A : Option Addr) (c : Nat) : m[b]? = some L → lo + n ≤ L.len → n ≤ c → lo + c = L.cap → (0 < c → A = some ⟨L.blk, lo * wid k, none⟩) → Sees U W m (.slice A n c) (.sl k b lo n)
  | elt (m : List Loc) (k : Kd) (b i off : Nat) (L : Loc) : m[b]? = some L → i < L.len → Sees U W m (.pointer (some ⟨L.blk, i * wid k + off, none⟩)) (.elt k b i off)
  | emp (m : List Loc) (A : Option Addr) : Sees U W m (.slice A 0 0) .emp
  | ref (m : List Loc) (ad : Addr) (u : Nat → Value) (ds : List Da) : (∀ (j : Nat) (d : Da), ds[j]? = some d → ¬ U ad.block ∧ W.cell? (ad.add j) = some (u j)) → (∀ (j : Nat) (d : Da), ds[j]? = some d → Sees U W [] (u j) d) → Sees U W m (.pointer (some ad)) (.ref ds)
  | opt (m : List Loc) (c : Bool) (v : Value) (ds : List Da) : (c = true → Sees U W m v (.ref ds)) → (c = false → v = .pointer none) → Sees U W m v (.opt c ds)
  | lst (m : List Loc) (A : Option Addr) (c : Nat) (k : Kd) (l : List (El k)) (u : Nat → Nat → Value) : l.length ≤ c → (∀ (i j : Nat) (d : Da) (x : El k), l[i]? = some x → (row k x)[j]? = some d → ∃ ad, A = some ad ∧ ¬ U ad.block ∧ W.cell? (ad.add (i * wid k + j)) = some (u i j)) →
      (∀ (i j : Nat) (d : Da) (x : El k), l[i]? = some x → (row k x)[j]? = some d → Sees U W [] (u i j) d) → Sees U W m (.slice A l.length c) (.lst k l)

mutual
/-- Nothing of ours is pointed to. -/
def Da.shut : Da → Bool
  | .box .. => false
  | .sl .. => false
  | .elt .. => false
  | .agg ds => Da.shutL ds
  | .tup ds => Da.shutL ds
  | .clo _ f c => Da.shutL f && Da.shutL c
  | _ => true
def Da.shutL : List Da → Bool
  | [] => true
  | d :: r => d.shut && Da.shutL r
end
mutual
/-- Memory doesn't matter. -/
def Da.flat : Da → Bool
  | .v _ => true
  | .u8 _ => true
  | .b _ => true
  | .nb _ => true
  | .any => true
  | .emp => true
  | .agg ds => Da.flatL ds
  | .tup ds => Da.flatL ds
  | .clo _ f c => Da.flatL f && Da.flatL c
  | _ => false
def Da.flatL : List Da → Bool
  | [] => true
  | d :: r => d.flat && Da.flatL r
end
mutual
/-- Our own variables renamed; what has no name any more is forgotten. -/
def Da.ren (f : Nat → Option Nat) : Da → Da
  | .box q off => match f q with | some q' => .box q' off | none => .any
  | .sl k q lo n => match f q with | some q' => .sl k q' lo n | none => .any
  | .elt k q i off => match f q with | some q' => .elt k q' i off | none => .any
  | .agg ds => .agg (Da.renL f ds)
  | .tup ds => .tup (Da.renL f ds)
  | .clo fn a c => .clo fn (Da.renL f a) (Da.renL f c)
  | d => d
def Da.renL (f : Nat → Option Nat) : List Da → List Da
  | [] => []
  | d :: r => d.ren f :: Da.renL f r
end
mutual
/-- Which of our variables are named. -/
def Da.ids : Da → List Nat
  | .box q _ => [q]
  | .sl _ q _ _ => [q]
  | .elt _ q _ _ => [q]
  | .agg ds => Da.idsL ds
  | .tup ds => Da.idsL ds
  | .clo _ a c => Da.idsL a ++ Da.idsL c
  | _ => []
def Da.idsL : List Da → List Nat
  | [] => []
  | d :: r => d.ids ++ Da.idsL r
end
/-- What a variable of ours holds: its cells; the elements of a slice; nothing any more. -/
inductive Bc where
  | cells (ds : List Da)
  | list (k : Kd) (l : List (El k))
  | dead
/-- A variable of ours: its type (or its elements'), what it holds; is it only read from now on? do its elements own what they hold? -/
structure Bx where
  ty : TypeId
  c : Bc
  fr : Bool
  dp : Bool
def Bx.gone : Bx := ⟨0, .dead, false, false⟩
instance : Inhabited Bx := ⟨Bx.gone⟩
def Bx.live (x : Bx) : Bool := match x.c with | .dead => false | _ => true
def Bx.freeze (x : Bx) : Bx := { x with fr := true }
def Bx.ids (x : Bx) : List Nat := match x.c with | .cells ds => Da.idsL ds | _ => []
def Bx.ren (f : Nat → Option Nat) (x : Bx) : Bx := match x with
  | ⟨ty, .cells ds, fr, dp⟩ => ⟨ty, .cells (Da.renL f ds), fr, dp⟩
  | x => x
/-- The column of an element that is a slice of its own, and of what. -/
def ncol : Kd → Option (Nat × Kd)
  | .role => some (1, .rule)
  | _ => none
/-- Each element has a block for what it holds. -/
def Deep (W : World) (k : Kd) (n : Nat) (cs : Array Value) (sub : List Nat) : Prop :=
  ∀ j k', ncol k = some (j, k') → sub.length = n ∧ sub.Nodup ∧ ∀ (i : Nat) (s : Nat), sub[i]? = some s → ∃ A q c, cs[i * wid k + j]? = some (.slice A q c) ∧ (0 < c → A = some ⟨s, 0, none⟩ ∧ ∃ cs' ty, W.heap[s]? = some (.cells cs' ty (0, 0)) ∧ cs'.size = c * wid k')
def BxOk (U : Ex) (W : World) (m : List Loc) (x : Bx) (L : Loc) : Prop :=
  match x.c with
  | .cells ds => L.on = true ∧ ∃ cs, W.heap[L.blk]? = some (.cells cs x.ty (0, 0)) ∧ cs.size = ds.length ∧ ∀ (j : Nat) (v : Value) (d : Da), cs[j]? = some v → ds[j]? = some d → Sees U W m v d
  | .list k l => L.len = l.length ∧ l.length ≤ L.cap ∧ (0 < L.cap → L.on = true) ∧ (L.on = true → ∃ cs, W.heap[L.blk]? = some (.cells cs x.ty (0, 0)) ∧ cs.size = L.cap * wid k ∧
      (∀ (i j : Nat) (e : El k) (d : Da), l[i]? = some e → (row k e)[j]? = some d → ∃ u, cs[i * wid k + j]? = some u ∧ Sees U W [] u d) ∧ (x.dp = true → Deep W k l.length cs L.sub))
  | .dead => True
/-- Blocks that are ours to write. -/
def Mut (H : List Bx) (m : List Loc) : Ex := fun k => ∃ (b : Nat) (x : Bx) (L : Loc), H[b]? = some x ∧ x.live = true ∧ x.fr = false ∧ m[b]? = some L ∧ L.on = true ∧ L.blk = k
def Uof (U0 : Ex) (H : List Bx) (m : List Loc) : Ex := fun k => U0 k ∨ Mut H m k
/-- Our variables lie so. -/
structure HI (U0 : Ex) (H : List Bx) (m : List Loc) (W : World) : Prop where
  ml : m.length = H.length
  ul : ∀ k, U0 k → k < W.heap.size
  lt : ∀ (b : Nat) (x : Bx) (L : Loc), H[b]? = some x → x.live = true → m[b]? = some L → ∀ k ∈ L.foot, k < W.heap.size ∧ ¬ U0 k
  dj : ∀ (b b' : Nat) (x x' : Bx) (L L' : Loc), H[b]? = some x → x.live = true → m[b]? = some L → H[b']? = some x' → x'.live = true → m[b']? = some L' → ∀ k, k ∈ L.foot → k ∈ L'.foot → b = b'
  nd : ∀ (b : Nat) (x : Bx) (L : Loc), H[b]? = some x → x.live = true → m[b]? = some L → L.foot.Nodup
  bx : ∀ (b : Nat) (x : Bx) (L : Loc), H[b]? = some x → m[b]? = some L → BxOk (Uof U0 H m) W m x L
/-- Only these blocks have turned. -/
structure Chg (R : Ex) (w w' : World) : Prop where
  os : w'.os = w.os
  tape : w'.tape = w.tape
  output : w'.output = w.output
  size : w.heap.size ≤ w'.heap.size
  block : ∀ k, k < w.heap.size → ¬ R k → w'.heap[k]? = w.heap[k]?
/-- What a call gives: whatever memory, it returns a value that holds r, and all that was there stands. -/
def OkC (P : Program) (f : FuncId) (ds : List Da) (r : Da) : Prop :=
  ∀ (U : Ex) (w : World) (vs : Array Value), (∀ k, U k → k < w.heap.size) → vs.size = ds.length → (∀ (i : Nat) (v : Value) (d : Da), vs[i]? = some v → ds[i]? = some d → Sees U w [] v d) →
    Calls P f vs w fun e w' => ∃ v, e = .returned v ∧ Sees U w' [] v r ∧ Below w.heap.size w w'
/-- What happened to our variables: some are new, some hold something else; nothing else has turned. -/
structure Turned (U0 : Ex) (H : List Bx) (m : List Loc) (w : World) (H' : List Bx) (m2 : List Loc) (w' : World) : Prop where
  hi : HI U0 H' (m ++ m2) w'
  chg : Chg (Mut H m) w w'
  new : ∀ (b : Nat) (x : Bx) (L : Loc), H'[b]? = some x → x.live = true → (m ++ m2)[b]? = some L → ∀ k ∈ L.foot, w.heap.size ≤ k ∨ ∃ (b' : Nat) (x' : Bx) (L' : Loc), H[b']? = some x' ∧ x'.live = true ∧ m[b']? = some L' ∧ k ∈ L'.foot
  mt : ∀ k, Mut H' (m ++ m2) k → w.heap.size ≤ k ∨ Mut H m k
/-- What a call gives that is handed variables of ours. -/
def OkX (P : Program) (f : FuncId) (H : List Bx) (ds : List Da) (H' : List Bx) (r : Da) : Prop :=
  ∀ (U0 : Ex) (m : List Loc) (w : World) (vs : Array Value), HI U0 H m w → vs.size = ds.length → (∀ (i : Nat) (v : Value) (d : Da), vs[i]? = some v → ds[i]? = some d → Sees (Uof U0 H m) w m v d) →
    Calls P f vs w fun e w' => ∃ v m2, e = .returned v ∧ Turned U0 H m w H' m2 w' ∧ Sees (Uof U0 H' (m ++ m2)) w' (m ++ m2) v r
/-- Where this holds. -/
inductive Cn where
  | yes
  | when (q : Bool)
def Cn.holds : Cn → Prop
  | .yes => True
  | .when q => q = true
/-- What is known of a function: where this holds, it gives that. -/
abbrev Entry := List Da → Option (Cn × Da)
abbrev EntryX := List Bx → List Da → Option (Cn × List Bx × Da)
structure EOk (P : Program) (f : FuncId) (h : Entry) : Prop where
  go : ∀ args w, (callFunc f args).run P w = .ok (.enter f args) w
  ok : ∀ ds q r, h ds = some (q, r) → q.holds → OkC P f ds r
structure XOk (P : Program) (f : FuncId) (h : EntryX) : Prop where
  go : ∀ args w, (callFunc f args).run P w = .ok (.enter f args) w
  ok : ∀ H ds q H' r, h H ds = some (q, H', r) → q.holds → OkX P f H ds H' r
abbrev CtxC := List (FuncId × Entry)
abbrev CtxX := List (FuncId × EntryX)
/-- What is known: of functions, of those that are handed variables of ours, of types. -/
structure Ctx where
  c : CtxC
  x : CtxX
  kd : TypeId → Option Kd
def look (f : FuncId) (ds : List Da) : CtxC → Option (Cn × Da)
  | [] => none
  | (g, h) :: r => match (if g == f then h ds else none) with
    | some x => some x
    | none => look f ds r
def lookX (f : FuncId) (H : List Bx) (ds : List Da) : CtxX → Option (Cn × List Bx × Da)
  | [] => none
  | (g, h) :: r => match (if g == f then h H ds else none) with
    | some x => some x
    | none => lookX f H ds r
structure COk (P : Program) (Γ : Ctx) : Prop where
  c : ∀ e ∈ Γ.c, EOk P e.1 e.2
  x : ∀ e ∈ Γ.x, XOk P e.1 e.2
theorem look_ok {P : Program} {f : FuncId} {ds : List Da} {q : Cn} {r : Da} : ∀ {Γ : CtxC}, (∀ e ∈ Γ, EOk P e.1 e.2) → look f ds Γ = some (q, r) → q.holds → (∀ args w, (callFunc f args).run P w = .ok (.enter f args) w) ∧ OkC P f ds r
  | [], _, h, _ => by cases h
  | (g, e) :: Γ, hc, h, hq => by
    simp only [look] at h
    split at h
    · rename_i x hx
      cases h
      split at hx
      · rename_i hg
        have hg : g = f := by simpa using hg
        subst hg
        have := hc (g, e) List.mem_cons_self
        exact ⟨this.go, this.ok ds q r hx hq⟩
      · cases hx
    · exact look_ok (fun x hx => hc x (List.mem_cons_of_mem _ hx)) h hq
theorem lookX_ok {P : Program} {f : FuncId} {H : List Bx} {ds : List Da} {q : Cn} {H' : List Bx} {r : Da} : ∀ {Γ : CtxX}, (∀ e ∈ Γ, XOk P e.1 e.2) → lookX f H ds Γ = some (q, H', r) → q.holds → (∀ args w, (callFunc f args).run P w = .ok (.enter f args) w) ∧ OkX P f H ds H' r
  | [], _, h, _ => by cases h
  | (g, e) :: Γ, hc, h, hq => by
    simp only [lookX] at h
    split at h
    · rename_i x hx
      cases h
      split at hx
      · rename_i hg
        have hg : g = f := by simpa using hg
        subst hg
        have := hc (g, e) List.mem_cons_self
        exact ⟨this.go, this.ok H ds q H' r hx hq⟩
      · cases hx
    · exact lookX_ok (fun x hx => hc x (List.mem_cons_of_mem _ hx)) h hq
structure St where
  ts : List Da
  H : List Bx
instance : Inhabited St := ⟨⟨[], []⟩⟩
/-- What an operation does to our variables: these hold that, these are new. -/
structure Eff where
  wr : List (Nat × Bx)
  nw : List Bx
def Eff.no : Eff := ⟨[], []⟩
def setAll : List (Nat × Bx) → List Bx → List Bx
  | [], H => H
  | p :: r, H => setAll r (H.set p.1 p.2)
def Eff.app (e : Eff) (H : List Bx) : List Bx := setAll e.wr H ++ e.nw
def frzE (H : List Bx) (fz : List Nat) : List (Nat × Bx) := fz.filterMap fun b => match H[b]? with | some x => some (b, x.freeze) | none => none
def ofC : Value → Da
  | .agg cs => .agg (cs.toList.map .v)
  | x => .v x
def evO (ts : List Da) : Operand → Da
  | .tmp t => ts.getD t .any
  | .const x => ofC x
  | .global _ => .any
  | .func f => .clo (.func f) [] []
def br {α : Type} (d : Da) (k : Bool → Tree α) : Tree α :=
  match d with
  | .v (.bool x) => k x
  | .b c => .node c (k true) (k false)
  | .nb c => .node c (k false) (k true)
  | _ => .bad
def St.put (s : St) (dst : Option Tmp) (d : Da) : St :=
  match dst with
  | some t => { s with ts := s.ts.set t d }
  | none => s
/-- A byte, seen as a number. -/
def Da.nrm : Da → Da
  | .u8 x => .v (.int .u8 x.toNat)
  | d => d
def b8 (n : Int) : UInt8 := UInt8.ofNat (n % 256).toNat

section
variable (P : Program) (Γ : Ctx) (ev : Operand → Da) (H : List Bx)
abbrev Vt := Tree (Da × List Nat)
abbrev Et := Tree (Da × Eff)
def lf (d : Da) : Vt := .leaf (d, [])
def loadD (t : TypeId) (ds : List Da) : Vt :=
  match P.underlying t with
  | some (.struct _) => match P.info? t with
    | some i => if i.size ≤ ds.length then lf (.agg (ds.take i.size)) else .bad
    | none => .bad
  | some (.array _ _) => .bad
  | some _ => match ds with
    | d :: _ => lf d
    | [] => .bad
  | none => .bad
def loadT (t : TypeId) (d : Da) : Vt :=
  match d with
  | .ref ds => loadD P t ds
  | .box b off => match H[b]? with
    | some ⟨_, .cells ds, _, _⟩ => loadD P t (ds.drop off)
    | _ => .bad
  | .elt k b i off => match H[b]? with
    | some ⟨_, .list k' l, _, _⟩ => if h : k' = k then loadD P t ((row k (h ▸ (l.getD i default))).drop off) else .bad
    | _ => .bad
  | _ => .bad
def nilT (d : Da) : Vt :=
  match d with
  | .ref ds => lf (.ref ds)
  | .box b off => lf (.box b off)
  | .elt k b i off => lf (.elt k b i off)
  | .opt c ds => .node c (lf (.ref ds)) .bad
  | _ => .bad
def fldAT (t : TypeId) (f : Nat) (d : Da) : Vt :=
  match P.underlying t with
  | some (.struct fs) => match fs[f]? with
    | some fd => match P.info? fd.type with
      | some i => if i.size = 0 then .bad else match d with
        | .ref ds => lf (.ref ((ds.drop fd.offset).take i.size))
        | .box b off => lf (.box b (off + fd.offset))
        | .elt k b j off => lf (.elt k b j (off + fd.offset))
        | _ => .bad
      | none => .bad
    | none => .bad
  | _ => .bad
def fldT (t : TypeId) (f : Nat) (d : Da) : Vt :=
  match P.underlying t with
  | some (.struct fs) => match fs[f]? with
    | some fd => match d with
      | .agg ds => loadD P fd.type (ds.drop fd.offset)
      | _ => .bad
    | none => .bad
  | _ => .bad
def ixAT (t : TypeId) (d i : Da) : Vt :=
  match P.underlying t with
  | some (.slice e) => match P.info? e, d, i with
    | some ie, .lst k l, .v (.int _ n) => if ie.size = wid k then .node (decide (0 ≤ n)) (.node (decide (n < l.length)) (lf (.ref (row k (l.getD n.toNat default)))) .bad) .bad else .bad
    | some ie, .sl k b lo q, .v (.int _ n) => if ie.size = wid k then .node (decide (0 ≤ n)) (.node (decide (n < q)) (lf (.elt k b (lo + n.toNat) 0)) .bad) .bad else .bad
    | _, _, _ => .bad
  | _ => .bad
def ixT (t : TypeId) (d i : Da) : Vt :=
  match P.underlying t, d, i with
  | some .string, .v (.string x), .v (.int _ n) => .node (decide (0 ≤ n)) (.node (decide (n < x.size)) (lf (.u8 (x.data.getD n.toNat 0))) .bad) .bad
  | _, _, _ => .bad
def exT (n : Nat) (d : Da) : Vt :=
  match d with
  | .tup ds => match ds[n]? with
    | some e => lf e
    | none => .bad
  | _ => .bad
def unT (op : UnOp) (d : Da) : Vt :=
  match op, d with
  | .not, .v (.bool c) => lf (.v (.bool !c))
  | .not, .b c => lf (.nb c)
  | .not, .nb c => lf (.b c)
  | .neg, .v (.int k n) => lf (.v (.int k (k.wrap (0 - n))))
  | _, _ => .bad
def intT (op : BinOp) (k : IntKind) (x y : Int) : Vt :=
  match op with
  | .add => lf (.v (.int k (k.wrap (x + y))))
  | .sub => lf (.v (.int k (k.wrap (x - y))))
  | .mul => lf (.v (.int k (k.wrap (x * y))))
  | .quo => .node (decide (y = 0)) .bad (lf (.v (.int k (k.wrap (x.tdiv y)))))
  | .rem => .node (decide (y = 0)) .bad (lf (.v (.int k (x.tmod y))))
  | .and => lf (.v (.int k (bits .and k x y)))
  | .or => lf (.v (.int k (bits .or k x y)))
  | .xor => lf (.v (.int k (bits .xor k x y)))
  | .eql => lf (.b (x == y))
  | .neq => lf (.nb (x == y))
  | .lss => lf (.b (decide (x < y)))
  | .leq => lf (.b (decide (x ≤ y)))
  | .gtr => lf (.b (decide (x > y)))
  | .geq => lf (.b (decide (x ≥ y)))
  | _ => .bad
def strT (op : BinOp) (x y : ByteArray) : Vt :=
  match op with
  | .add => .node (decide (((x.size + y.size : Nat) : Int) > 9223372036854775807)) .bad (lf (.v (.string (x ++ y))))
  | .eql => lf (.b (x.toList == y.toList))
  | .neq => lf (.nb (x.toList == y.toList))
  | .lss => lf (.b (Op.bytesLess x.toList y.toList))
  | .leq => lf (.b (Op.bytesLess x.toList y.toList || x.toList == y.toList))
  | .gtr => lf (.nb (Op.bytesLess x.toList y.toList || x.toList == y.toList))
  | .geq => lf (.nb (Op.bytesLess x.toList y.toList))
  | _ => .bad
def shT (op : BinOp) (k : IntKind) (x y : Int) : Vt :=
  match op with
  | .shl => .node (decide (y < 0)) .bad (lf (.v (.int k (k.wrap (x * 2 ^ min y.toNat k.bits)))))
  | .shr => .node (decide (y < 0)) .bad (lf (.v (.int k (x.fdiv (2 ^ min y.toNat k.bits)))))
  | _ => .bad
def eqB (op : BinOp) (x y : Bool) : Vt :=
  match op with
  | .eql => lf (.b (x == y))
  | .neq => lf (.nb (x == y))
  | _ => .bad
def eqP (op : BinOp) (z : Bool) : Vt :=
  match op with
  | .eql => lf (.b z)
  | .neq => lf (.nb z)
  | _ => .bad
def nilP (d : Da) : Option Bool :=
  match d with
  | .v (.pointer none) => some true
  | .ref _ => some false
  | .box _ _ => some false
  | .elt .. => some false
  | .opt c _ => some !c
  | _ => none
def binT (op : BinOp) (t : TypeId) (d e : Da) : Vt :=
  match d.nrm, e.nrm with
  | .v (.int k x), .v (.int k' y) => match op with
    | .shl | .shr => shT op k x y
    | _ => if k = k' then intT op k x y else .bad
  | .v (.string x), .v (.string y) => strT op x y
  | d, e => match P.underlying t with
    | some .bool => match d.asB, e.asB with
      | some x, some y => eqB op x y
      | _, _ => .bad
    | some (.pointer _) => match nilP d, nilP e with
      | some x, some y => .node (y || x) (eqP op (y && x)) .bad
      | _, _ => .bad
    | _ => .bad
def convT (src dst : TypeId) (d : Da) : Vt :=
  match P.underlying src, P.underlying dst, d.nrm with
  | some _, some (.int .u8), .v (.int _ n) => lf (.u8 (b8 n))
  | some _, some (.int k), .v (.int _ n) => lf (.v (.int k (k.wrap n)))
  | some _, some .string, .v (.string x) => lf (.v (.string x))
  | _, _, _ => .bad
/-- What is in cells, closed: our slices as they are. -/
def closeS (d : Da) : Option (Da × List Nat) :=
  match d with
  | .sl k b lo n => match H[b]? with
    | some ⟨_, .list k' l, _, _⟩ => if h : k' = k then some (.lst k (((h ▸ l : List (El k)).drop lo).take n), [b]) else none
    | _ => none
  | d => if d.shut then some (d, []) else none
def closeL : List Da → Option (List Da × List Nat)
  | [] => some ([], [])
  | d :: r => match closeS H d, closeL r with
    | some (e, f), some (es, fs) => some (e :: es, f ++ fs)
    | _, _ => none
mutual
def shutA : Da → Option (Da × List Nat)
  | .box b off => match H[b]? with
    | some ⟨_, .cells ds, _, _⟩ => match closeL H ds with
      | some (es, fz) => some (.ref (es.drop off), b :: fz)
      | none => none
    | _ => none
  | .elt k b i off => match H[b]? with
    | some ⟨_, .list k' l, _, _⟩ => if h : k' = k then some (.ref ((row k (h ▸ (l.getD i default))).drop off), [b]) else none
    | _ => none
  | .agg ds => match shutAs ds with
    | some (es, fz) => some (.agg es, fz)
    | none => none
  | .tup ds => match shutAs ds with
    | some (es, fz) => some (.tup es, fz)
    | none => none
  | .clo fn a c => match shutAs a, shutAs c with
    | some (es, fz), some (es', fz') => some (.clo fn es es', fz ++ fz')
    | _, _ => none
  | d => closeS H d
def shutAs : List Da → Option (List Da × List Nat)
  | [] => some ([], [])
  | d :: r => match shutA d, shutAs r with
    | some (e, f), some (es, fs) => some (e :: es, f ++ fs)
    | _, _ => none
end
def slT (t : TypeId) (d : Da) (lo hi mx : Option Da) : Vt :=
  match P.underlying t, d with
  | some .string, .v (.string x) => match lo, hi, mx with
    | none, none, none => lf (.v (.string (x.extract 0 x.size)))
    | some (.v (.int _ a)), none, none => .node (decide (0 ≤ a)) (.node (decide (a ≤ x.size)) (lf (.v (.string (x.extract a.toNat x.size)))) .bad) .bad
    | none, some (.v (.int _ h)), none => .node (decide (0 ≤ h)) (.node (decide (h ≤ x.size)) (lf (.v (.string (x.extract 0 h.toNat)))) .bad) .bad
    | some (.v (.int _ a)), some (.v (.int _ h)), none => .node (decide (0 ≤ a)) (.node (decide (a ≤ h)) (.node (decide (h ≤ x.size)) (lf (.v (.string (x.extract a.toNat h.toNat)))) .bad) .bad) .bad
    | _, _, _ => .bad
  | some (.slice e), .lst k l => match P.info? e with
    | some ie => if ie.size = wid k then match lo, hi, mx with
      | none, none, none => lf (.lst k l)
      | some (.v (.int _ a)), none, none => .node (decide (0 ≤ a)) (.node (decide (a ≤ l.length)) (lf (.lst k (l.drop a.toNat))) .bad) .bad
      | none, some (.v (.int _ h)), none => .node (decide (0 ≤ h)) (.node (decide (h ≤ l.length)) (lf (.lst k (l.take h.toNat))) .bad) .bad
      | some (.v (.int _ a)), some (.v (.int _ h)), none => .node (decide (0 ≤ a)) (.node (decide (a ≤ h)) (.node (decide (h ≤ l.length)) (lf (.lst k ((l.take h.toNat).drop a.toNat))) .bad) .bad) .bad
      | none, some (.v (.int _ 0)), some (.v (.int _ 0)) => lf .emp
      | some (.v (.int _ 0)), some (.v (.int _ 0)), some (.v (.int _ 0)) => lf .emp
      | _, _, _ => .bad
      else .bad
    | none => .bad
  | some (.slice e), .sl k b q n => match P.info? e with
    | some ie => if ie.size = wid k then match lo, hi, mx with
      | none, none, none => lf (.sl k b q n)
      | some (.v (.int _ a)), none, none => .node (decide (0 ≤ a)) (.node (decide (a ≤ n)) (lf (.sl k b (q + a.toNat) (n - a.toNat))) .bad) .bad
      | none, some (.v (.int _ h)), none => .node (decide (0 ≤ h)) (.node (decide (h ≤ n)) (lf (.sl k b q h.toNat)) .bad) .bad
      | some (.v (.int _ a)), some (.v (.int _ h)), none => .node (decide (0 ≤ a)) (.node (decide (a ≤ h)) (.node (decide (h ≤ n)) (lf (.sl k b (q + a.toNat) (h.toNat - a.toNat))) .bad) .bad) .bad
      | none, some (.v (.int _ 0)), some (.v (.int _ 0)) => lf .emp
      | some (.v (.int _ 0)), some (.v (.int _ 0)), some (.v (.int _ 0)) => lf .emp
      | _, _, _ => .bad
      else .bad
    | none => .bad
  | _, _ => .bad
def lenT (t : TypeId) (d : Da) : Vt :=
  match P.underlying t, d with
  | some .string, .v (.string x) => lf (.v (.int .i64 x.size))
  | some (.slice _), .lst _ l => lf (.v (.int .i64 l.length))
  | some (.slice _), .sl _ _ _ n => lf (.v (.int .i64 n))
  | some (.slice _), .emp => lf (.v (.int .i64 0))
  | some (.slice _), .v (.slice none 0 0) => lf (.v (.int .i64 0))
  | _, _ => .bad
def minT (k : IntKind) (x y : Int) : Vt := lf (.v (.int k (if y < x then y else x)))
def maxT (k : IntKind) (x y : Int) : Vt := lf (.v (.int k (if y > x then y else x)))
/-- An operation that only reads. -/
def valT (o : Oper) : Vt :=
  match o.op with
  | .move x => lf (ev x)
  | .assign x => lf (ev x)
  | .pick c x y => br (ev c) fun t => lf (bif t then ev x else ev y)
  | .load t x => loadT P H t (ev x)
  | .nilCheck x => nilT (ev x)
  | .binOp op t x y _ => binT P op t (ev x) (ev y)
  | .unOp op _ x => unT op (ev x)
  | .convert a b x => convT P a b (ev x)
  | .makeFunc fn first caps => lf (.clo fn (first.toList.map ev) (caps.toList.map ev))
  | .slice t x lo hi mx => slT P t (ev x) (lo.map ev) (hi.map ev) (mx.map ev)
  | .fieldAddr t x f => fldAT P t f (ev x)
  | .field t x f => fldT P t f (ev x)
  | .indexAddr t x i => ixAT P t (ev x) (ev i)
  | .index t x i => ixT P t (ev x) (ev i)
  | .extract x n => exT n (ev x)
  | .call ⟨.builtin .len, xs, ts⟩ => match ts.toList, xs.toList with
    | [t], [x] => lenT P t (ev x)
    | _, _ => .bad
  | .call ⟨.builtin .min, xs, _⟩ => match xs.toList.map ev with
    | [.v (.int k x), .v (.int _ y)] => minT k x y
    | _ => .bad
  | .call ⟨.builtin .max, xs, _⟩ => match xs.toList.map ev with
    | [.v (.int k x), .v (.int _ y)] => maxT k x y
    | _ => .bad
  | _ => .bad
end
end Go.Proofs.YthlebalbiokjpaaGreat
