/- What each law's row needs: bytes that come in, and the last step behind a call that only made new blocks. | Arguments that come in by value are seen as data: one opener a type. -/
import Derived.Test.YthlebalbiokjpaaGreatKh00
import Derived.Test.YthlebalbiokjpaaGreatRows
import Derived.WalkKit
import Derived.ProofKit
import Derived.OpenShut
import Derived.Carry
import Derived.ChangeSame
import Derived.Test.YthlebalbiokjpaaGreatKh32
import Derived.Deep.Slices
import Derived.Deep.Fields
namespace Go.Proofs.YthlebalbiokjpaaGreat
open Go.ChangeShapes Go.WideShapes Go.ChangeAt Go.RowKit
set_option linter.unusedVariables false
set_option linter.unusedSimpArgs false
set_option maxRecDepth 20000

theorem laidOutAll : laidOutB Tryz.prog = true := by kernel_rfl
theorem ownAll : ownKnob Tryz.prog.godebug = none := by kernel_rfl
theorem cellsU8 : Tryz.prog.cellsOf 5 = 1 := by kernel_rfl

section
variable {H : Type} {enc : TypeId × Value → H}
/-- An argument of type []byte: its bytes are read. -/
theorem opened {W : World} {base : Nat} {v : Value} {d : DataW H} {p : List MemPlace} (hval : Value.okWide Tryz.prog W .any base 253 v) (h : DataW.Trod enc Tryz.prog W 0 (fun _ => true) true 253 v d p) :
    ∃ (A : Option Addr) (c : Nat) (bs : List UInt8), v = .slice A bs.length c ∧ bs.length ≤ c ∧ Rd W A (bs.map bV) := by
  obtain ⟨a0, len, cap, rfl⟩ := okWide_slice Tryz.underlying253 hval
  obtain ⟨fuel, hf⟩ := h
  rcases open_ints Tryz.underlying253 Tryz.underlying5 cellsU8 hf with ⟨hcs, hx⟩ | ⟨a, len', cap', zs, hcs, _, hl, hm, hz, hx, hcell, hwz⟩
  · simp [Value.cells] at hcs
    obtain ⟨rfl, rfl, rfl⟩ := hcs
    exact ⟨none, 0, [], rfl, Nat.le_refl _, Rd.nil⟩
  · simp [Value.cells] at hcs
    obtain ⟨rfl, rfl, rfl⟩ := hcs
    simp only [if_true] at hz
    have hlen : ((zs.take len).map fun n => UInt8.ofNat n.toNat).length = len := by simp; omega
    refine ⟨some a, cap, (zs.take len).map fun n => UInt8.ofNat n.toNat, by rw [hlen], by rw [hlen]; exact hl, fun j u hu => ⟨a, rfl, ?_⟩⟩
    obtain ⟨hj, hu⟩ := List.getElem?_eq_some_iff.1 hu
    simp only [List.length_map] at hj
    have hj2 : j < len := by simp at hj; omega
    have hj3 : j < zs.length := by omega
    have hw := hwz zs[j] (List.getElem_mem hj3)
    have hb : 0 ≤ zs[j] ∧ zs[j] ≤ 255 := by simpa [Lit.wf, IntKind.min, IntKind.max, IntKind.signed, IntKind.bits] using hw
    rw [hcell j hj3, ← hu]
    simp only [List.getElem_map, List.getElem_take, bV]
    have e : zs.getD j 0 = zs[j] := by simp [List.getD, List.getElem?_eq_getElem hj3]
    rw [e]
    congr 2
    simp only [UInt8.toNat_ofNat']
    omega
/-- The last step of a row: the call made new blocks alone, and answered true. -/
theorem post_new {P : Program} {f : Func} {s : ChangeSpec} {apart fresh handsOn again : Bool} {W W' : World} {args : Array Value} {v : Value} {ds gs : List (DataW H)} {before pa pv : List MemPlace}
    (hW : DataW.Whole enc P f.params.toList s.vars apart W args.toList ds gs before)
    (hres : ∀ (b : Nat) (sp : Nat → Bool) (hd : Bool), DataW.TrodAll enc P W' b sp hd f.resultTypes.toList (v.resultList f.resultTypes.size) (s.fn H (ds ++ gs)).results [])
    (hargs : ∀ sp : Nat → Bool, (∀ p ∈ before, sp p.block = true) → DataW.TrodAll enc P W' 0 sp true f.params.toList args.toList (s.fn H (ds ++ gs)).args pa)
    (hvars : ∀ sp : Nat → Bool, (∀ p ∈ before, sp p.block = true) → DataW.TrodVars enc P W' sp s.vars (s.fn H (ds ++ gs)).vars pv)
    (hps : before = pa ++ pv) (hb : Below W.heap.size W W')
    (hok : ∀ (j : Nat) (t : TypeId) (r : Value), f.resultTypes[j]? = some t → (v.resultList f.resultTypes.size)[j]? = some r → Value.okWide P W' .any 0 t r) :
    s.post enc P f apart fresh handsOn again W args v W' := by
  have hlt : ∀ p ∈ before, p.block < W.heap.size := fun p hp => hW.lt p hp
  have hold : ∀ p ∈ before, (fun b => decide (b < W.heap.size)) p.block = true := fun p hp => by simpa using hlt p hp
  refine ⟨ds, gs, before, [], pa, pv, hW, hres _ _ _, hargs _ hold, hvars _ hold, World.keptBut_mono (fun p hp => ⟨hp, ?_⟩) (hb.frame (· ∈ before)), fun _ => ?_⟩
  · rw [hps, List.mem_append] at hp
    exact Or.inr hp
  · obtain ⟨_, _, _, _, _, hz, hn⟩ := hW
    refine ⟨hok, _, _, ([] ++ pa) ++ pv, ⟨[] ++ pa, pv, trodAll_append (hargs _ (fun _ _ => rfl)) (hres _ _ _), hvars _ (fun _ _ => rfl), rfl, ?_, ?_⟩, ?_⟩
    · intro b off hp
      have hin : MemPlace.cell b off ∈ before := by rw [hps]; simpa using hp
      rw [hb.frozen (hlt _ hin)]
      exact hz b off hin
    · intro ha
      have := hn ha
      rw [hps] at this
      simpa using this
    · intro p hp _
      rw [hps]
      simpa using hp
theorem bytes_stay {W W' : World} {v : Value} {d : DataW H} {p : List MemPlace} {sp : Nat → Bool} (h : DataW.Trod enc Tryz.prog W 0 (fun _ => true) true 253 v d p) (hb : Below W.heap.size W W') (hlt : ∀ x ∈ p, x.block < W.heap.size) (hs : ∀ x ∈ p, sp x.block = true) :
    DataW.Trod enc Tryz.prog W' 0 sp true 253 v d p :=
  WideElems.Trod_stays (P := Tryz.prog) laidOutAll (by kernel_rfl) (of_decide_eq_true (by kernel_rfl)) h (fun x hx => hb.same (hlt x hx)) hs
end
end Go.Proofs.YthlebalbiokjpaaGreat
namespace Go.Proofs.YthlebalbiokjpaaGreat
open Go.ChangeShapes Go.WideShapes Go.ChangeAt Go.RowKit Go.Deep
set_option linter.unusedVariables false
set_option maxRecDepth 100000

theorem maxLen_le : maxLen ≤ M63 := by decide
abbrev noU : Ex := fun _ => False
/-- These values hold these data, one by one. -/
def RowIs (w : World) (cs : List Value) (ds : List Da) : Prop := cs.length = ds.length ∧ ∀ (j : Nat) (u : Value) (d : Da), cs[j]? = some u → ds[j]? = some d → Sees noU w [] u d
theorem RowIs.one {w : World} {u : Value} {d : Da} (h : Sees noU w [] u d) : RowIs w [u] [d] := ⟨rfl, fun j x y hx hy => by
  match j with
  | 0 => cases hx; cases hy; exact h
  | j + 1 => simp at hx⟩
theorem RowIs.app {w : World} {cs cs' : List Value} {ds ds' : List Da} (h : RowIs w cs ds) (h' : RowIs w cs' ds') : RowIs w (cs ++ cs') (ds ++ ds') := by
  refine ⟨by simp [h.1, h'.1], fun j u d hu hd => ?_⟩
  by_cases hj : j < cs.length
  · rw [List.getElem?_append_left hj] at hu
    rw [List.getElem?_append_left (h.1 ▸ hj)] at hd
    exact h.2 j u d hu hd
  · rw [List.getElem?_append_right (by omega)] at hu
    rw [List.getElem?_append_right (by have := h.1; omega), ← h.1] at hd
    exact h'.2 _ u d hu hd
/-- Fields that stand one behind the other, from o on. -/
def inOrder (P : Program) : List Field → Nat → Nat → Bool
  | [], o, n => o == n
  | f :: r, o, n => f.offset == o && inOrder P r (o + P.cellsOf f.type) n
def FldsAre (P : Program) (w : World) (cs : List Value) : List Field → List (List Da) → Prop
  | [], [] => True
  | f :: r, D :: R => RowIs w ((cs.drop f.offset).take (P.cellsOf f.type)) D ∧ FldsAre P w cs r R
  | _, _ => False
theorem RowIs.flds {P : Program} {w : World} {cs : List Value} : ∀ (fs : List Field) (Ds : List (List Da)) (o : Nat), inOrder P fs o cs.length = true → FldsAre P w cs fs Ds → RowIs w (cs.drop o) Ds.flatten
  | [], [], o, h, _ => by
    have : o = cs.length := by simpa [inOrder] using h
    rw [this, List.drop_length]
    exact ⟨rfl, fun j u d hu _ => by simp at hu⟩
  | [], _ :: _, _, _, h => by cases h
  | _ :: _, [], _, _, h => by cases h
  | f :: r, D :: R, o, h, ⟨h1, h2⟩ => by
    unfold inOrder at h
    obtain ⟨e, h⟩ := and2 h
    have e : f.offset = o := by simpa using e
    rw [e] at h1
    have := h1.app (RowIs.flds r R _ h h2)
    rw [← List.drop_drop, List.take_append_drop] at this
    exact this
theorem band {a b : Bool} (ha : a = true) (hb : b = true) : (a && b) = true := by rw [ha, hb]; rfl
section
variable {H : Type} {enc : TypeId × Value → H} {P : Program} {w : World} {base : Nat} {sp : Nat → Bool} {held : Bool}
theorem fld_of {fs : Array Field} {n : Nat} {cs : List Value} {xs : List (DataW H × List MemPlace)} (hlen : xs.length = fs.size) (hf : ∀ (j : Nat) (f : Field), fs[j]? = some f → DataW.trod enc P w base sp held n f.type ((cs.drop f.offset).take (P.cellsOf f.type)) = xs[j]?) (j : Nat) (f : Field) (h : fs[j]? = some f) :
    ∃ y, DataW.trod enc P w base sp held n f.type ((cs.drop f.offset).take (P.cellsOf f.type)) = some y := by
  have hj : j < fs.size := (Array.getElem?_eq_some_iff.1 h).1
  exact ⟨xs[j]'(by omega), (hf j f h).trans (List.getElem?_eq_getElem (by omega))⟩
theorem RowIs.struct {t : TypeId} {fs : Array Field} {cs : List Value} (ht : P.underlying t = some (.struct fs)) (hl : cs.length = P.cellsOf t) (Ds : List (List Da)) (ho : inOrder P fs.toList 0 (P.cellsOf t) = true) (h : FldsAre P w cs fs.toList Ds) : RowIs w cs Ds.flatten :=
  RowIs.flds fs.toList Ds 0 (by rw [hl]; exact ho) h
/-- A slice of structs. -/
theorem openL (k : Kd) (f : El k → Bool) {t e : TypeId} {fuel : Nat} {cs : List Value} {d : DataW H × List MemPlace} (ht : P.underlying t = some (.slice e)) (hC : P.cellsOf e = wid k) (hw : ∀ x : El k, (row k x).length = wid k)
    (one : ∀ (n : Nat) (cs : List Value) (y : DataW H × List MemPlace), DataW.trod enc P w base sp held n e cs = some y → ∃ x : El k, RowIs w cs (row k x) ∧ f x = true)
    (h : DataW.trod enc P w base sp held fuel t cs = some d) : ∃ l : List (El k), RowIs w cs [.lst k l] ∧ fL l f = true := by
  rcases open_slice ht h with ⟨rfl, -⟩ | ⟨a, len, cap, m, n, D, Pl, rfl, _, hl, hm, hmm, _, hi⟩
  · exact ⟨[], RowIs.one (Sees.lst [] none 0 k [] (fun _ _ => default) (Nat.le_refl _) (fun i j d x hx => by cases hx) (fun i j d x hx => by cases hx)), (by simp [fL, fN])⟩
  · have hlm : len ≤ m := by split at hmm <;> omega
    have hx : ∀ i, i < len → ∃ x : El k, f x = true ∧ ∀ (j : Nat) (d : Da), (row k x)[j]? = some d → ∃ u, w.cell? (a.add (i * wid k + j)) = some u ∧ Sees noU w [] u d := fun i hil => by
      obtain ⟨cs', hc, ht'⟩ := hi i (by omega)
      obtain ⟨x, ⟨hr1, hr2⟩, hf⟩ := one n cs' _ ht'
      refine ⟨x, hf, fun j d hd => ?_⟩
      rw [hC] at hc
      obtain ⟨_, hcl, hat⟩ := World.cells?_some hc
      have hj : j < (row k x).length := (List.getElem?_eq_some_iff.1 hd).1
      have hjc : j < cs'.length := by omega
      refine ⟨cs'[j], ?_, hr2 j _ d (List.getElem?_eq_getElem hjc) hd⟩
      have := hat j (by omega)
      rw [addr_add] at this
      rw [this]
      exact List.getElem?_eq_getElem hjc
    have hl2 : ∀ q, q ≤ len → ∃ l : List (El k), l.length = q ∧ (∀ x ∈ l, f x = true) ∧ ∀ (i j : Nat) (d : Da) (x : El k), l[i]? = some x → (row k x)[j]? = some d → ∃ u, w.cell? (a.add (i * wid k + j)) = some u ∧ Sees noU w [] u d := by
      intro q
      induction q with
      | zero => exact fun _ => ⟨[], rfl, (fun x hx => by cases hx), (fun i j d x hx => by simp at hx)⟩
      | succ q ih =>
        intro hq
        obtain ⟨l, h1, h2, h3⟩ := ih (by omega)
        obtain ⟨x, hf, hx⟩ := hx q (by omega)
        refine ⟨l ++ [x], by simp [h1], fun y hy => ?_, fun i j d y hy hd => ?_⟩
        · rcases List.mem_append.1 hy with hy | hy
          · exact h2 y hy
          · rw [List.mem_singleton.1 hy]; exact hf
        · by_cases hi : i < l.length
          · rw [List.getElem?_append_left hi] at hy
            exact h3 i j d y hy hd
          · have hi2 : i < (l ++ [x]).length := (List.getElem?_eq_some_iff.1 hy).1
            have e : i = l.length := by simp at hi2; omega
            subst e
            simp at hy
            subst hy
            rw [h1]
            exact hx j d hd
    obtain ⟨l, h1, h2, h3⟩ := hl2 len (Nat.le_refl _)
    have hu : ∀ (i j : Nat), ∃ u : Value, ∀ (d : Da) (x : El k), l[i]? = some x → (row k x)[j]? = some d → w.cell? (a.add (i * wid k + j)) = some u ∧ Sees noU w [] u d := fun i j => by
      cases hx : l[i]? with
      | none => exact ⟨default, fun d x hx' => by cases hx'⟩
      | some x => cases hd : (row k x)[j]? with
        | none => exact ⟨default, fun d y hy hd' => by cases hy; rw [hd] at hd'; cases hd'⟩
        | some d =>
          obtain ⟨u, hu⟩ := h3 i j d x hx hd
          exact ⟨u, fun d' y hy hd' => by cases hy; rw [hd] at hd'; cases hd'; exact hu⟩
    refine ⟨l, RowIs.one ?_, ?_⟩
    · have := Sees.lst (U := noU) (W := w) [] (some a) cap k l (fun i j => (hu i j).choose) (by omega) (fun i j d x hx hd => ⟨a, rfl, fun h => h, ((hu i j).choose_spec d x hx hd).1⟩) (fun i j d x hx hd => ((hu i j).choose_spec d x hx hd).2)
      rw [h1] at this
      exact this
    · unfold fL fN
      rw [Bool.and_eq_true, List.all_eq_true]
      exact ⟨decide_eq_true (h1 ▸ Nat.le_trans hl (Nat.le_trans hm maxLen_le)), h2⟩
end
section
variable {H : Type} {enc : TypeId × Value → H} {w : World} {base : Nat} {sp : Nat → Bool} {held : Bool} {fuel : Nat} {cs : List Value} {d : DataW H × List MemPlace}
theorem opI (h : DataW.trod enc Tryz.prog w base sp held fuel 3 cs = some d) : ∃ n : Int, RowIs w cs [.I n] := by
  obtain ⟨n, rfl, -⟩ := DataW.trod_int Tryz.underlying3 h
  exact ⟨n, RowIs.one (.v _ _)⟩
theorem opS (h : DataW.trod enc Tryz.prog w base sp held fuel 9 cs = some d) : ∃ t : ByteArray, RowIs w cs [.S t] ∧ fS t = true := by
  obtain ⟨n, rfl, -, hb⟩ := DataW.trod_string Tryz.underlying9 h
  exact ⟨n, RowIs.one (.v _ _), decide_eq_true (Nat.le_trans hb maxLen_le)⟩
theorem opB (h : DataW.trod enc Tryz.prog w base sp held fuel 4 cs = some d) : ∃ b : Bool, RowIs w cs [.b b] := by
  obtain ⟨n, rfl, -⟩ := DataW.trod_bool Tryz.underlying4 h
  exact ⟨n, RowIs.one (.b _ _)⟩
theorem opNet (h : DataW.trod enc Tryz.prog w base sp held fuel 23 cs = some d) : ∃ x : El .net, RowIs w cs (row .net x) ∧ (fun _ => true : El .net → Bool) x = true := by
  obtain ⟨xs, n, _, _, hl, hlen, hf⟩ := DataW.trod_struct Tryz.underlying23 h
  obtain ⟨y0, h0⟩ := fld_of hlen hf 0 _ rfl
  obtain ⟨x0, r0⟩ := opI h0
  obtain ⟨y1, h1⟩ := fld_of hlen hf 1 _ rfl
  obtain ⟨x1, r1⟩ := opI h1
  have hr := RowIs.struct Tryz.underlying23 hl [_, _] (by kernel_rfl) ⟨r0, r1, trivial⟩
  exact ⟨⟨x0, x1⟩, hr, rfl⟩
theorem opRange (h : DataW.trod enc Tryz.prog w base sp held fuel 194 cs = some d) : ∃ x : El .range, RowIs w cs (row .range x) ∧ (fun _ => true : El .range → Bool) x = true := by
  obtain ⟨xs, n, _, _, hl, hlen, hf⟩ := DataW.trod_struct Tryz.underlying194 h
  obtain ⟨y0, h0⟩ := fld_of hlen hf 0 _ rfl
  obtain ⟨x0, r0⟩ := opI h0
  obtain ⟨y1, h1⟩ := fld_of hlen hf 1 _ rfl
  obtain ⟨x1, r1⟩ := opI h1
  have hr := RowIs.struct Tryz.underlying194 hl [_, _] (by kernel_rfl) ⟨r0, r1, trivial⟩
  exact ⟨⟨x0, x1⟩, hr, rfl⟩
theorem opRule (h : DataW.trod enc Tryz.prog w base sp held fuel 260 cs = some d) : ∃ x : El .rule, RowIs w cs (row .rule x) ∧ (fun _ => true : El .rule → Bool) x = true := by
  obtain ⟨xs, n, _, _, hl, hlen, hf⟩ := DataW.trod_struct Tryz.underlying260 h
  obtain ⟨y0, h0⟩ := fld_of hlen hf 0 _ rfl
  obtain ⟨x0, r0⟩ := opI h0
  obtain ⟨y1, h1⟩ := fld_of hlen hf 1 _ rfl
  obtain ⟨x1, r1, f1⟩ := opNet h1
  obtain ⟨y2, h2⟩ := fld_of hlen hf 2 _ rfl
  obtain ⟨x2, r2, f2⟩ := opRange h2
  obtain ⟨y3, h3⟩ := fld_of hlen hf 3 _ rfl
  obtain ⟨x3, r3⟩ := opB h3
  have hr := RowIs.struct Tryz.underlying260 hl [_, _, _, _] (by kernel_rfl) ⟨r0, r1, r2, r3, trivial⟩
  exact ⟨⟨x0, x1.ip, x1.bits, x2.low, x2.high, x3⟩, hr, rfl⟩
theorem opPlace (h : DataW.trod enc Tryz.prog w base sp held fuel 196 cs = some d) : ∃ x : El .place, RowIs w cs (row .place x) ∧ (fun _ => true : El .place → Bool) x = true := by
  obtain ⟨xs, n, _, _, hl, hlen, hf⟩ := DataW.trod_struct Tryz.underlying196 h
  obtain ⟨y0, h0⟩ := fld_of hlen hf 0 _ rfl
  obtain ⟨x0, r0, f0⟩ := opNet h0
  obtain ⟨y1, h1⟩ := fld_of hlen hf 1 _ rfl
  obtain ⟨x1, r1, f1⟩ := opRange h1
  have hr := RowIs.struct Tryz.underlying196 hl [_, _] (by kernel_rfl) ⟨r0, r1, trivial⟩
  exact ⟨⟨x0.ip, x0.bits, x1.low, x1.high⟩, hr, rfl⟩
theorem opRuleS (h : DataW.trod enc Tryz.prog w base sp held fuel 179 cs = some d) : ∃ l : List (El .rule), RowIs w cs [.lst .rule l] ∧ fL l (fun _ => true : El .rule → Bool) = true :=
  openL .rule (fun _ => true) Tryz.underlying179 (by kernel_rfl) (fun x => rfl) (fun n cs y h => opRule h) h
theorem opRole (h : DataW.trod enc Tryz.prog w base sp held fuel 181 cs = some d) : ∃ x : El .role, RowIs w cs (row .role x) ∧ (fRole : El .role → Bool) x = true := by
  obtain ⟨xs, n, _, _, hl, hlen, hf⟩ := DataW.trod_struct Tryz.underlying181 h
  obtain ⟨y0, h0⟩ := fld_of hlen hf 0 _ rfl
  obtain ⟨x0, r0, f0⟩ := opS h0
  obtain ⟨y1, h1⟩ := fld_of hlen hf 1 _ rfl
  obtain ⟨x1, r1, f1⟩ := opRuleS h1
  obtain ⟨y2, h2⟩ := fld_of hlen hf 2 _ rfl
  obtain ⟨x2, r2⟩ := opI h2
  obtain ⟨y3, h3⟩ := fld_of hlen hf 3 _ rfl
  obtain ⟨x3, r3⟩ := opI h3
  obtain ⟨y4, h4⟩ := fld_of hlen hf 4 _ rfl
  obtain ⟨x4, r4⟩ := opI h4
  have hr := RowIs.struct Tryz.underlying181 hl [_, _, _, _, _] (by kernel_rfl) ⟨r0, r1, r2, r3, r4, trivial⟩
  exact ⟨⟨x0, x1, x2, x3, x4⟩, hr, (band f0 (and2 f1).1)⟩
theorem opUser (h : DataW.trod enc Tryz.prog w base sp held fuel 183 cs = some d) : ∃ x : El .user, RowIs w cs (row .user x) ∧ (fUser : El .user → Bool) x = true := by
  obtain ⟨xs, n, _, _, hl, hlen, hf⟩ := DataW.trod_struct Tryz.underlying183 h
  obtain ⟨y0, h0⟩ := fld_of hlen hf 0 _ rfl
  obtain ⟨x0, r0, f0⟩ := opS h0
  obtain ⟨y1, h1⟩ := fld_of hlen hf 1 _ rfl
  obtain ⟨x1, r1, f1⟩ := opS h1
  obtain ⟨y2, h2⟩ := fld_of hlen hf 2 _ rfl
  obtain ⟨x2, r2, f2⟩ := opS h2
  obtain ⟨y3, h3⟩ := fld_of hlen hf 3 _ rfl
  obtain ⟨x3, r3, f3⟩ := opS h3
  obtain ⟨y4, h4⟩ := fld_of hlen hf 4 _ rfl
  obtain ⟨x4, r4⟩ := opI h4
  obtain ⟨y5, h5⟩ := fld_of hlen hf 5 _ rfl
  obtain ⟨x5, r5⟩ := opI h5
  have hr := RowIs.struct Tryz.underlying183 hl [_, _, _, _, _, _] (by kernel_rfl) ⟨r0, r1, r2, r3, r4, r5, trivial⟩
  exact ⟨⟨x0, x1, x2, x3, x4, x5⟩, hr, (band f0 (band f1 (band f2 f3)))⟩
theorem opSession (h : DataW.trod enc Tryz.prog w base sp held fuel 185 cs = some d) : ∃ x : El .session, RowIs w cs (row .session x) ∧ (fun x => fS x.mac : El .session → Bool) x = true := by
  obtain ⟨xs, n, _, _, hl, hlen, hf⟩ := DataW.trod_struct Tryz.underlying185 h
  obtain ⟨y0, h0⟩ := fld_of hlen hf 0 _ rfl
  obtain ⟨x0, r0⟩ := opI h0
  obtain ⟨y1, h1⟩ := fld_of hlen hf 1 _ rfl
  obtain ⟨x1, r1⟩ := opI h1
  obtain ⟨y2, h2⟩ := fld_of hlen hf 2 _ rfl
  obtain ⟨x2, r2, f2⟩ := opS h2
  obtain ⟨y3, h3⟩ := fld_of hlen hf 3 _ rfl
  obtain ⟨x3, r3⟩ := opI h3
  obtain ⟨y4, h4⟩ := fld_of hlen hf 4 _ rfl
  obtain ⟨x4, r4⟩ := opI h4
  obtain ⟨y5, h5⟩ := fld_of hlen hf 5 _ rfl
  obtain ⟨x5, r5⟩ := opI h5
  obtain ⟨y6, h6⟩ := fld_of hlen hf 6 _ rfl
  obtain ⟨x6, r6⟩ := opI h6
  obtain ⟨y7, h7⟩ := fld_of hlen hf 7 _ rfl
  obtain ⟨x7, r7⟩ := opI h7
  obtain ⟨y8, h8⟩ := fld_of hlen hf 8 _ rfl
  obtain ⟨x8, r8⟩ := opI h8
  obtain ⟨y9, h9⟩ := fld_of hlen hf 9 _ rfl
  obtain ⟨x9, r9⟩ := opI h9
  have hr := RowIs.struct Tryz.underlying185 hl [_, _, _, _, _, _, _, _, _, _] (by kernel_rfl) ⟨r0, r1, r2, r3, r4, r5, r6, r7, r8, r9, trivial⟩
  exact ⟨⟨x0, x1, x2, x3, x4, x5, x6, x7, x8, x9⟩, hr, f2⟩
theorem opFail (h : DataW.trod enc Tryz.prog w base sp held fuel 187 cs = some d) : ∃ x : El .fail, RowIs w cs (row .fail x) ∧ (fun x => fS x.mac : El .fail → Bool) x = true := by
  obtain ⟨xs, n, _, _, hl, hlen, hf⟩ := DataW.trod_struct Tryz.underlying187 h
  obtain ⟨y0, h0⟩ := fld_of hlen hf 0 _ rfl
  obtain ⟨x0, r0, f0⟩ := opS h0
  obtain ⟨y1, h1⟩ := fld_of hlen hf 1 _ rfl
  obtain ⟨x1, r1⟩ := opI h1
  obtain ⟨y2, h2⟩ := fld_of hlen hf 2 _ rfl
  obtain ⟨x2, r2⟩ := opI h2
  have hr := RowIs.struct Tryz.underlying187 hl [_, _, _] (by kernel_rfl) ⟨r0, r1, r2, trivial⟩
  exact ⟨⟨x0, x1, x2⟩, hr, f0⟩
theorem opRecord (h : DataW.trod enc Tryz.prog w base sp held fuel 205 cs = some d) : ∃ x : El .record, RowIs w cs (row .record x) ∧ (fun _ => true : El .record → Bool) x = true := by
  obtain ⟨xs, n, _, _, hl, hlen, hf⟩ := DataW.trod_struct Tryz.underlying205 h
  obtain ⟨y0, h0⟩ := fld_of hlen hf 0 _ rfl
  obtain ⟨x0, r0⟩ := opI h0
  obtain ⟨y1, h1⟩ := fld_of hlen hf 1 _ rfl
  obtain ⟨x1, r1⟩ := opI h1
  obtain ⟨y2, h2⟩ := fld_of hlen hf 2 _ rfl
  obtain ⟨x2, r2⟩ := opI h2
  obtain ⟨y3, h3⟩ := fld_of hlen hf 3 _ rfl
  obtain ⟨x3, r3⟩ := opI h3
  obtain ⟨y4, h4⟩ := fld_of hlen hf 4 _ rfl
  obtain ⟨x4, r4⟩ := opB h4
  have hr := RowIs.struct Tryz.underlying205 hl [_, _, _, _, _] (by kernel_rfl) ⟨r0, r1, r2, r3, r4, trivial⟩
  exact ⟨⟨x0, x1, x2, x3, x4⟩, hr, rfl⟩
theorem opFlow (h : DataW.trod enc Tryz.prog w base sp held fuel 149 cs = some d) : ∃ x : El .flow, RowIs w cs (row .flow x) ∧ (fun x => fS x.mac : El .flow → Bool) x = true := by
  obtain ⟨xs, n, _, _, hl, hlen, hf⟩ := DataW.trod_struct Tryz.underlying149 h
  obtain ⟨y0, h0⟩ := fld_of hlen hf 0 _ rfl
  obtain ⟨x0, r0⟩ := opI h0
  obtain ⟨y1, h1⟩ := fld_of hlen hf 1 _ rfl
  obtain ⟨x1, r1, f1⟩ := opS h1
  obtain ⟨y2, h2⟩ := fld_of hlen hf 2 _ rfl
  obtain ⟨x2, r2⟩ := opI h2
  obtain ⟨y3, h3⟩ := fld_of hlen hf 3 _ rfl
  obtain ⟨x3, r3⟩ := opI h3
  obtain ⟨y4, h4⟩ := fld_of hlen hf 4 _ rfl
  obtain ⟨x4, r4⟩ := opI h4
  obtain ⟨y5, h5⟩ := fld_of hlen hf 5 _ rfl
  obtain ⟨x5, r5⟩ := opI h5
  obtain ⟨y6, h6⟩ := fld_of hlen hf 6 _ rfl
  obtain ⟨x6, r6⟩ := opI h6
  obtain ⟨y7, h7⟩ := fld_of hlen hf 7 _ rfl
  obtain ⟨x7, r7⟩ := opI h7
  obtain ⟨y8, h8⟩ := fld_of hlen hf 8 _ rfl
  obtain ⟨x8, r8⟩ := opI h8
  have hr := RowIs.struct Tryz.underlying149 hl [_, _, _, _, _, _, _, _, _] (by kernel_rfl) ⟨r0, r1, r2, r3, r4, r5, r6, r7, r8, trivial⟩
  exact ⟨⟨x0, x1, x2, x3, x4, x5, x6, x7, x8⟩, hr, f1⟩
theorem opConn (h : DataW.trod enc Tryz.prog w base sp held fuel 151 cs = some d) : ∃ x : El .conn, RowIs w cs (row .conn x) ∧ (fConn : El .conn → Bool) x = true := by
  obtain ⟨xs, n, _, _, hl, hlen, hf⟩ := DataW.trod_struct Tryz.underlying151 h
  obtain ⟨y0, h0⟩ := fld_of hlen hf 0 _ rfl
  obtain ⟨x0, r0, f0⟩ := opS h0
  obtain ⟨y1, h1⟩ := fld_of hlen hf 1 _ rfl
  obtain ⟨x1, r1⟩ := opI h1
  obtain ⟨y2, h2⟩ := fld_of hlen hf 2 _ rfl
  obtain ⟨x2, r2⟩ := opI h2
  obtain ⟨y3, h3⟩ := fld_of hlen hf 3 _ rfl
  obtain ⟨x3, r3⟩ := opI h3
  obtain ⟨y4, h4⟩ := fld_of hlen hf 4 _ rfl
  obtain ⟨x4, r4⟩ := opI h4
  obtain ⟨y5, h5⟩ := fld_of hlen hf 5 _ rfl
  obtain ⟨x5, r5⟩ := opI h5
  obtain ⟨y6, h6⟩ := fld_of hlen hf 6 _ rfl
  obtain ⟨x6, r6⟩ := opI h6
  obtain ⟨y7, h7⟩ := fld_of hlen hf 7 _ rfl
  obtain ⟨x7, r7⟩ := opI h7
  obtain ⟨y8, h8⟩ := fld_of hlen hf 8 _ rfl
  obtain ⟨x8, r8, f8⟩ := opS h8
  obtain ⟨y9, h9⟩ := fld_of hlen hf 9 _ rfl
  obtain ⟨x9, r9, f9⟩ := opS h9
  obtain ⟨y10, h10⟩ := fld_of hlen hf 10 _ rfl
  obtain ⟨x10, r10⟩ := opB h10
  have hr := RowIs.struct Tryz.underlying151 hl [_, _, _, _, _, _, _, _, _, _, _] (by kernel_rfl) ⟨r0, r1, r2, r3, r4, r5, r6, r7, r8, r9, r10, trivial⟩
  exact ⟨⟨x0, x1, x2, x3, x4, x5, x6, x7, x8, x9, x10⟩, hr, (band f0 (band f8 f9))⟩
theorem opPlaceS (h : DataW.trod enc Tryz.prog w base sp held fuel 24 cs = some d) : ∃ l : List (El .place), RowIs w cs [.lst .place l] ∧ fL l (fun _ => true : El .place → Bool) = true :=
  openL .place (fun _ => true) Tryz.underlying24 (by kernel_rfl) (fun x => rfl) (fun n cs y h => opPlace h) h
theorem opRoleS (h : DataW.trod enc Tryz.prog w base sp held fuel 25 cs = some d) : ∃ l : List (El .role), RowIs w cs [.lst .role l] ∧ fL l (fRole : El .role → Bool) = true :=
  openL .role (fRole) Tryz.underlying25 (by kernel_rfl) (fun x => rfl) (fun n cs y h => opRole h) h
theorem opConfig (h : DataW.trod enc Tryz.prog w base sp held fuel 27 cs = some d) : ∃ x : El .config, RowIs w cs (row .config x) ∧ (fConfig : El .config → Bool) x = true := by
  obtain ⟨xs, n, _, _, hl, hlen, hf⟩ := DataW.trod_struct Tryz.underlying27 h
  obtain ⟨y0, h0⟩ := fld_of hlen hf 0 _ rfl
  obtain ⟨x0, r0, f0⟩ := opNet h0
  obtain ⟨y1, h1⟩ := fld_of hlen hf 1 _ rfl
  obtain ⟨x1, r1⟩ := opI h1
  obtain ⟨y2, h2⟩ := fld_of hlen hf 2 _ rfl
  obtain ⟨x2, r2, f2⟩ := opS h2
  obtain ⟨y3, h3⟩ := fld_of hlen hf 3 _ rfl
  obtain ⟨x3, r3, f3⟩ := opS h3
  obtain ⟨y4, h4⟩ := fld_of hlen hf 4 _ rfl
  obtain ⟨x4, r4⟩ := opI h4
  obtain ⟨y5, h5⟩ := fld_of hlen hf 5 _ rfl
  obtain ⟨x5, r5, f5⟩ := opPlaceS h5
  obtain ⟨y6, h6⟩ := fld_of hlen hf 6 _ rfl
  obtain ⟨x6, r6, f6⟩ := opRoleS h6
  have hr := RowIs.struct Tryz.underlying27 hl [_, _, _, _, _, _, _] (by kernel_rfl) ⟨r0, r1, r2, r3, r4, r5, r6, trivial⟩
  exact ⟨⟨x0.ip, x0.bits, x1, x2, x3, x4, x5, x6⟩, hr, (band f2 (band f3 (band (and2 f5).1 f6)))⟩
theorem opUserS (h : DataW.trod enc Tryz.prog w base sp held fuel 28 cs = some d) : ∃ l : List (El .user), RowIs w cs [.lst .user l] ∧ fL l (fUser : El .user → Bool) = true :=
  openL .user (fUser) Tryz.underlying28 (by kernel_rfl) (fun x => rfl) (fun n cs y h => opUser h) h
theorem opSessionS (h : DataW.trod enc Tryz.prog w base sp held fuel 29 cs = some d) : ∃ l : List (El .session), RowIs w cs [.lst .session l] ∧ fL l (fun x => fS x.mac : El .session → Bool) = true :=
  openL .session (fun x => fS x.mac) Tryz.underlying29 (by kernel_rfl) (fun x => rfl) (fun n cs y h => opSession h) h
theorem opFailS (h : DataW.trod enc Tryz.prog w base sp held fuel 30 cs = some d) : ∃ l : List (El .fail), RowIs w cs [.lst .fail l] ∧ fL l (fun x => fS x.mac : El .fail → Bool) = true :=
  openL .fail (fun x => fS x.mac) Tryz.underlying30 (by kernel_rfl) (fun x => rfl) (fun n cs y h => opFail h) h
theorem opRecordS (h : DataW.trod enc Tryz.prog w base sp held fuel 31 cs = some d) : ∃ l : List (El .record), RowIs w cs [.lst .record l] ∧ fL l (fun _ => true : El .record → Bool) = true :=
  openL .record (fun _ => true) Tryz.underlying31 (by kernel_rfl) (fun x => rfl) (fun n cs y h => opRecord h) h
theorem opGuests (h : DataW.trod enc Tryz.prog w base sp held fuel 33 cs = some d) : ∃ x : El .guests, RowIs w cs (row .guests x) ∧ (fGuests : El .guests → Bool) x = true := by
  obtain ⟨xs, n, _, _, hl, hlen, hf⟩ := DataW.trod_struct Tryz.underlying33 h
  obtain ⟨y0, h0⟩ := fld_of hlen hf 0 _ rfl
  obtain ⟨x0, r0, f0⟩ := opUserS h0
  obtain ⟨y1, h1⟩ := fld_of hlen hf 1 _ rfl
  obtain ⟨x1, r1, f1⟩ := opSessionS h1
  obtain ⟨y2, h2⟩ := fld_of hlen hf 2 _ rfl
  obtain ⟨x2, r2, f2⟩ := opFailS h2
  obtain ⟨y3, h3⟩ := fld_of hlen hf 3 _ rfl
  obtain ⟨x3, r3, f3⟩ := opRecordS h3
  obtain ⟨y4, h4⟩ := fld_of hlen hf 4 _ rfl
  obtain ⟨x4, r4⟩ := opI h4
  have hr := RowIs.struct Tryz.underlying33 hl [_, _, _, _, _] (by kernel_rfl) ⟨r0, r1, r2, r3, r4, trivial⟩
  exact ⟨⟨x0, x1, x2, x3, x4⟩, hr, (band f0 (band f1 (band f2 (and2 f3).1)))⟩
theorem opFlowS (h : DataW.trod enc Tryz.prog w base sp held fuel 34 cs = some d) : ∃ l : List (El .flow), RowIs w cs [.lst .flow l] ∧ fL l (fun x => fS x.mac : El .flow → Bool) = true :=
  openL .flow (fun x => fS x.mac) Tryz.underlying34 (by kernel_rfl) (fun x => rfl) (fun n cs y h => opFlow h) h
theorem opConnS (h : DataW.trod enc Tryz.prog w base sp held fuel 35 cs = some d) : ∃ l : List (El .conn), RowIs w cs [.lst .conn l] ∧ fL l (fConn : El .conn → Bool) = true :=
  openL .conn (fConn) Tryz.underlying35 (by kernel_rfl) (fun x => rfl) (fun n cs y h => opConn h) h
theorem opGateway (h : DataW.trod enc Tryz.prog w base sp held fuel 37 cs = some d) : ∃ x : El .gateway, RowIs w cs (row .gateway x) ∧ (fGateway : El .gateway → Bool) x = true := by
  obtain ⟨xs, n, _, _, hl, hlen, hf⟩ := DataW.trod_struct Tryz.underlying37 h
  obtain ⟨y0, h0⟩ := fld_of hlen hf 0 _ rfl
  obtain ⟨x0, r0, f0⟩ := opConfig h0
  obtain ⟨y1, h1⟩ := fld_of hlen hf 1 _ rfl
  obtain ⟨x1, r1, f1⟩ := opGuests h1
  obtain ⟨y2, h2⟩ := fld_of hlen hf 2 _ rfl
  obtain ⟨x2, r2, f2⟩ := opFlowS h2
  obtain ⟨y3, h3⟩ := fld_of hlen hf 3 _ rfl
  obtain ⟨x3, r3, f3⟩ := opConnS h3
  obtain ⟨y4, h4⟩ := fld_of hlen hf 4 _ rfl
  obtain ⟨x4, r4⟩ := opI h4
  obtain ⟨y5, h5⟩ := fld_of hlen hf 5 _ rfl
  obtain ⟨x5, r5⟩ := opI h5
  obtain ⟨y6, h6⟩ := fld_of hlen hf 6 _ rfl
  obtain ⟨x6, r6⟩ := opI h6
  have hr := RowIs.struct Tryz.underlying37 hl [_, _, _, _, _, _, _] (by kernel_rfl) ⟨r0, r1, r2, r3, r4, r5, r6, trivial⟩
  exact ⟨⟨x0.lanIp, x0.lanBits, x0.gate, x0.gateMac, x0.wanMac, x0.resolver, x0.garden, x0.roles, x1.users, x1.sessions, x1.fails, x1.records, x1.next, x2, x3, x4, x5, x6⟩, hr, (band f0 (band f1 (band f2 f3)))⟩
theorem sees_agg {w : World} {cs : Array Value} {ds : List Da} (h : RowIs w cs.toList ds) : Sees noU w [] (.agg cs) (.agg ds) :=
  .agg [] cs ds (by simpa using h.1) fun i v d hv hd => h.2 i v d (by simpa using hv) hd
/-- A struct by value. -/
theorem argConn {b0 : Nat} {r : Reach} {v : Value} {d : DataW H} {p : List MemPlace} (hv : Value.okWide Tryz.prog w r b0 151 v) (h : DataW.Trod enc Tryz.prog w base sp held 151 v d p) : ∃ x : XConn, Sees noU w [] v (.agg (row .conn x)) ∧ fConn x = true := by
  obtain ⟨cs, rfl, hsz⟩ := okWide_struct Tryz.underlying151 hv
  obtain ⟨fuel, hf⟩ := h
  obtain ⟨x, hr, hq⟩ := opConn (show DataW.trod enc Tryz.prog w base sp held fuel 151 cs.toList = some _ from hf)
  exact ⟨x, sees_agg hr, hq⟩
theorem argConfig {b0 : Nat} {r : Reach} {v : Value} {d : DataW H} {p : List MemPlace} (hv : Value.okWide Tryz.prog w r b0 27 v) (h : DataW.Trod enc Tryz.prog w base sp held 27 v d p) : ∃ x : XConfig, Sees noU w [] v (.agg (row .config x)) ∧ fConfig x = true := by
  obtain ⟨cs, rfl, hsz⟩ := okWide_struct Tryz.underlying27 hv
  obtain ⟨fuel, hf⟩ := h
  obtain ⟨x, hr, hq⟩ := opConfig (show DataW.trod enc Tryz.prog w base sp held fuel 27 cs.toList = some _ from hf)
  exact ⟨x, sees_agg hr, hq⟩
theorem argGuests {b0 : Nat} {r : Reach} {v : Value} {d : DataW H} {p : List MemPlace} (hv : Value.okWide Tryz.prog w r b0 33 v) (h : DataW.Trod enc Tryz.prog w base sp held 33 v d p) : ∃ x : XGuests, Sees noU w [] v (.agg (row .guests x)) ∧ fGuests x = true := by
  obtain ⟨cs, rfl, hsz⟩ := okWide_struct Tryz.underlying33 hv
  obtain ⟨fuel, hf⟩ := h
  obtain ⟨x, hr, hq⟩ := opGuests (show DataW.trod enc Tryz.prog w base sp held fuel 33 cs.toList = some _ from hf)
  exact ⟨x, sees_agg hr, hq⟩
theorem argGateway {b0 : Nat} {r : Reach} {v : Value} {d : DataW H} {p : List MemPlace} (hv : Value.okWide Tryz.prog w r b0 37 v) (h : DataW.Trod enc Tryz.prog w base sp held 37 v d p) : ∃ x : XGateway, Sees noU w [] v (.agg (row .gateway x)) ∧ fGateway x = true := by
  obtain ⟨cs, rfl, hsz⟩ := okWide_struct Tryz.underlying37 hv
  obtain ⟨fuel, hf⟩ := h
  obtain ⟨x, hr, hq⟩ := opGateway (show DataW.trod enc Tryz.prog w base sp held fuel 37 cs.toList = some _ from hf)
  exact ⟨x, sees_agg hr, hq⟩
end
end Go.Proofs.YthlebalbiokjpaaGreat
