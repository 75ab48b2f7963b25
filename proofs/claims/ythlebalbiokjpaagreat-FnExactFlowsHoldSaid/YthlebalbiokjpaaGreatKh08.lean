/- The walk by reckoning is right: slices made and written out, structs put together, variables written. | The walk by reckoning is right: variables written, cells cleared, calls that are handed variables of ours. | The walk by reckoning is right: stores, calls, every operation. | The walk by reckoning is right: calls, every operation. | The walk by reckoning is right: every operation, regions in the order of the text. -/
import Derived.Test.YthlebalbiokjpaaGreatKhVU
namespace Go.Proofs.YthlebalbiokjpaaGreat
open Go.RowKit
set_option linter.unusedVariables false
set_option linter.unusedSimpArgs false
theorem wid_le (k : Kd) : wid k ≤ 64 := by cases k <;> decide
section
variable {P : Program} {Γ : Ctx} {U : Ex} {H H1 : List Bx} {U0 R : Ex} {m : List Loc} {a : Act} {W W' : World}
theorem one_cells {v : Value} (h : v.oneCell' = true) : v.cells = #[v] := by cases v <;> first | rfl | (cases h; done)
/-- An element's cells. -/
theorem toEl_cells {k : Kd} {d : Da} {x : El k} (h : toEl k d = some x) {v : Value} (hv : Sees U W m v d) : v.cells.size = wid k ∧ ∀ (j : Nat) (e : Da), (row k x)[j]? = some e → ∃ u, v.cells[j]? = some u ∧ Sees U W m u e := by
  unfold toEl at h
  split at h
  · rename_i ds
    have hl := un_law k ds x h
    cases hv with
    | agg _ vs _ h1 h2 =>
      have hlen := hl.len
      rw [row_wid] at hlen
      refine ⟨by show vs.size = _; omega, fun j e he => ?_⟩
      obtain ⟨d, g1, g2⟩ := hl.at_ j e he
      have hj := (List.getElem?_eq_some_iff.1 g1).1
      have hj' : j < vs.size := by omega
      exact ⟨vs[j]'hj', (Array.getElem?_eq_getElem hj' : vs[j]? = _), g2 _ _ _ _ (h2 j _ _ (Array.getElem?_eq_getElem hj') g1)⟩
  · have hl := un_law k _ x h
    have hlen := hl.len
    rw [row_wid] at hlen
    obtain ⟨e0, he0⟩ := row_some (k := k) x (j := 0) (wid_pos k)
    obtain ⟨d', g1, g2⟩ := hl.at_ 0 e0 he0
    simp at g1
    subst g1
    have hs := g2 _ _ _ _ hv
    have hc := one_cells (hs.one (row_one k x _ (List.mem_of_getElem? he0)))
    refine ⟨by rw [hc]; simpa using hlen, fun j e he => ?_⟩
    have hj := row_lt he
    simp at hlen
    have hj0 : j = 0 := by omega
    subst hj0
    rw [he0] at he
    cases he
    exact ⟨v, by rw [hc]; rfl, hs⟩
theorem toEls_at {k : Kd} : ∀ {ds : List Da} {l : List (El k)}, toEls k ds = some l → l.length = ds.length ∧ ∀ (i : Nat) (x : El k), l[i]? = some x → ∃ d, ds[i]? = some d ∧ toEl k d = some x
  | [], l, h => by simp [toEls] at h; subst h; exact ⟨rfl, fun i x hx => by simp at hx⟩
  | d :: r, l, h => by
    simp only [toEls] at h
    split at h <;> try (cases h; done)
    rename_i x l' h1 h2
    cases h
    obtain ⟨g1, g2⟩ := toEls_at h2
    refine ⟨by simp [g1], fun i y hy => ?_⟩
    cases i with
    | zero => simp at hy; subst hy; exact ⟨d, rfl, h1⟩
    | succ i => obtain ⟨e, q1, q2⟩ := g2 i y (by simpa using hy); exact ⟨e, by simpa using q1, q2⟩
/-- make([]T, n, c). -/
theorem makT_ok (hi : HI U0 H m W) {t : TypeId} {v w : Value} {d e : Da} (hv : Sees (Uof U0 H m) W m v d) (hw : Sees (Uof U0 H m) W m w e) (hs : (makT P Γ H t d e).safe) :
    ∃ u W', (Instr.makeSlice t v w).run P W = .ok u W' ∧ Done U0 H m W (makT P Γ H t d e).get.2 (makT P Γ H t d e).get.1 u W' := by
  revert hs
  unfold makT
  split
  · rename_i q ka a kc c hq
    intro hs
    cases hv.v_inv
    cases hw.v_inv
    obtain ⟨k1, k2, k3, k4, k5, k6⟩ := kindT_ok hq
    simp only [Tree.safe, decide_eq_true_eq, decide_eq_false_iff_not] at hs
    have g1 : 0 ≤ a := Classical.byContradiction fun h => hs.2 h
    have g2 : a ≤ c := Classical.byContradiction fun h => (hs.1 g1).2 h
    have g3 : c ≤ 1073741824 := Classical.byContradiction fun h => ((hs.1 g1).1 g2).2 h
    simp only [g1, g2, g3, decide_true, Tree.get, cond_true]
    have hbytes : (q.ie.bytes : Int) * c ≤ 281474976710656 := by
      have h1 : (q.ie.bytes : Int) ≤ 4096 := by omega
      have h2 : (q.ie.bytes : Int) * c ≤ 4096 * c := Int.mul_le_mul_of_nonneg_right h1 (by omega)
      omega
    have hr := run_make (P := P) W t q.e q.ie q.z k1 k2 k3 ka kc a c g1 g2 hbytes (by omega)
    have hz := zOkL_get k5
    have hzs : q.z.cells.size = wid q.k := by
      have := hz.1
      rw [row_wid] at this
      simpa using this.symm
    have hB : Below W.heap.size W (W.alloc (.cells (madeCells q.z.cells (c.toNat * q.ie.size)) q.e)) := (Below.refl _ _).alloc (Nat.le_refl _) _
    have hw0 := wid_pos q.k
    obtain ⟨m2, t1, t2⟩ := done_list hi (Frz.refl H).kept hB (by simp) (e := q.e) (k := q.k) (l := List.replicate a.toNat (elDef q.k)) (cap := c.toNat) (heap_alloc_new W _) (by rw [size_madeCells, k4]) (by simp; omega) (fun i j x d hi' hd => by
      rw [List.getElem?_replicate] at hi'
      split at hi' <;> cases hi'
      rename_i hlt
      have hj := row_lt hd
      obtain ⟨u, hu, hs'⟩ := hz.2 j d hd
      refine ⟨u, ?_, zOk_sees _ _ hs'⟩
      have hlt2 : i * wid q.k + j < c.toNat * q.ie.size := by rw [k4]; exact cell_lt (by omega) hj
      unfold madeCells
      rw [Array.getElem?_map, Array.getElem?_range, if_pos hlt2, Option.map_some, hzs, Nat.mul_comm, Nat.mul_add_mod, Nat.mod_eq_of_lt hj]
      rw [Array.getElem?_toList] at hu
      have hj2 : j < q.z.cells.size := by omega
      rw [getElem!_pos q.z.cells j hj2]
      rw [Array.getElem?_eq_getElem hj2] at hu
      exact hu)
    rw [List.length_replicate] at t2
    exact ⟨_, _, hr, m2, by rw [show (⟨[], [Bx.ls q.e q.k (List.replicate a.toNat (elDef q.k))]⟩ : Eff).app H = H ++ [Bx.ls q.e q.k (List.replicate a.toNat (elDef q.k))] from rfl]; exact t1, t2⟩
  · intro hs; exact hs.elim
/-- []T{..}. -/
theorem fill_one (cells vs : Array Value) (o : Nat) (hl : o + vs.size ≤ cells.size) : (vs.zipIdx.foldl (fun cs (x : Value × Nat) => cs.setIfInBounds (o + x.2) x.1) cells).size = cells.size ∧ ∀ q, (vs.zipIdx.foldl (fun cs (x : Value × Nat) => cs.setIfInBounds (o + x.2) x.1) cells)[q]? = if o ≤ q ∧ q < o + vs.size then vs[q - o]? else cells[q]? := by
  have key : ∀ (l : List Value) (k : Nat) (cs : Array Value), o + k + l.length ≤ cs.size → (((l.zipIdx k).foldl (fun cs (x : Value × Nat) => cs.setIfInBounds (o + x.2) x.1) cs).size = cs.size ∧ ∀ q, ((l.zipIdx k).foldl (fun cs (x : Value × Nat) => cs.setIfInBounds (o + x.2) x.1) cs)[q]? = if o + k ≤ q ∧ q < o + k + l.length then l[q - (o + k)]? else cs[q]?) := by
    intro l
    induction l with
    | nil => intro k cs _; exact ⟨rfl, fun q => by rw [if_neg (by simp only [List.length_nil]; omega)]; rfl⟩
    | cons x r ih =>
      intro k cs h
      simp only [List.zipIdx_cons, List.foldl_cons, List.length_cons] at h ⊢
      obtain ⟨h1, h2⟩ := ih (k + 1) (cs.setIfInBounds (o + k) x) (by simp; omega)
      refine ⟨by rw [h1]; simp, fun q => ?_⟩
      rw [h2 q]
      by_cases hq : q = o + k
      · subst hq
        rw [if_neg (by omega), if_pos (by omega), Nat.sub_self, Array.getElem?_setIfInBounds, if_pos rfl, if_pos (by omega)]
        rfl
      · by_cases hr : o + (k + 1) ≤ q ∧ q < o + (k + 1) + r.length
        · rw [if_pos hr, if_pos (by omega)]
          have e : q - (o + k) = (q - (o + (k + 1))) + 1 := by omega
          rw [e, List.getElem?_cons_succ]
        · rw [if_neg hr, if_neg (by omega), Array.getElem?_setIfInBounds, if_neg (by omega)]
  have := key vs.toList 0 cells (by simpa using hl)
  have e : vs.zipIdx.toList = vs.toList.zipIdx 0 := by simp
  rw [← Array.foldl_toList, e]
  refine ⟨this.1, fun q => ?_⟩
  rw [this.2 q]
  simp
theorem fill_rows (w : Nat) : ∀ (ps : List (Nat × Value)) (k : Nat) (cells : Array Value), ps.map (·.1) = List.range' k ps.length → (k + ps.length) * w ≤ cells.size → (∀ p ∈ ps, p.2.cells.size = w) →
    ∃ cs, Instr.fill (fun i => some (i * w, w)) cells ps = some cs ∧ cs.size = cells.size ∧ (∀ q, q < k * w → cs[q]? = cells[q]?) ∧ ∀ (i j : Nat) p, ps[i]? = some p → j < w → cs[(k + i) * w + j]? = p.2.cells[j]?
  | [], k, cells, _, _, _ => ⟨cells, rfl, rfl, fun _ _ => rfl, fun i j p h => by simp at h⟩
  | (p0, v) :: r, k, cells, hm, hl, hv => by
    simp only [List.map_cons, List.length_cons, List.range'_succ, List.cons.injEq] at hm
    obtain ⟨rfl, hm⟩ := hm
    have hvs : v.cells.size = w := hv (p0, v) List.mem_cons_self
    simp only [List.length_cons] at hl
    have hmul : (p0 + (r.length + 1)) * w = p0 * w + w + r.length * w := by rw [Nat.add_mul, Nat.add_mul, Nat.one_mul]; omega
    obtain ⟨f1, f2⟩ := fill_one cells v.cells (p0 * w) (by rw [hvs]; omega)
    have hmul2 : (p0 + 1 + r.length) * w = p0 * w + w + r.length * w := by rw [Nat.add_mul, Nat.add_mul, Nat.one_mul]
    obtain ⟨cs, h1, h2, h3, h4⟩ := fill_rows w r (p0 + 1) (v.cells.zipIdx.foldl (fun cs (x : Value × Nat) => cs.setIfInBounds (p0 * w + x.2) x.1) cells) hm (by rw [f1, hmul2]; omega) (fun p hp => hv p (List.mem_cons_of_mem _ hp))
    refine ⟨cs, ?_, h2.trans f1, fun q hq => ?_, fun i j p hp hj => ?_⟩
    · unfold Instr.fill
      have hb : (decide (v.cells.size ≠ w) || decide (p0 * w + v.cells.size > cells.size)) = false := by
        simp only [Bool.or_eq_false_iff, decide_eq_false_iff_not]
        exact ⟨fun h => h hvs, by omega⟩
      simp only []
      rw [hb]
      exact h1
    · have e1 : (p0 + 1) * w = p0 * w + w := by rw [Nat.add_mul, Nat.one_mul]
      rw [h3 q (by omega), f2 q, if_neg (by omega)]
    · cases i with
      | zero =>
        simp at hp
        subst hp
        have e1 : (p0 + 1) * w = p0 * w + w := by rw [Nat.add_mul, Nat.one_mul]
        rw [Nat.add_zero, h3 _ (by omega), f2, if_pos (by omega)]
        congr 1
        omega
      | succ i =>
        have := h4 i j p (by simpa using hp) hj
        rwa [show p0 + 1 + i = p0 + (i + 1) from by omega] at this
theorem bldT_ok (hi : HI U0 H m W) {t : TypeId} {n : Nat} {ps : Array (Nat × Operand)} {ev : Operand → Da} (hev : ∀ p ∈ ps.toList, Sees (Uof U0 H m) W m (a.eval p.2) (ev p.2)) (hs : (bldT P Γ H t n (ps.toList.map (·.1)) (ps.toList.map fun p => ev p.2)).safe) :
    ∃ u W', (Instr.buildSlice t n (ps.map fun p => (p.1, a.eval p.2))).run P W = .ok u W' ∧ Done U0 H m W (bldT P Γ H t n (ps.toList.map (·.1)) (ps.toList.map fun p => ev p.2)).get.2 (bldT P Γ H t n (ps.toList.map (·.1)) (ps.toList.map fun p => ev p.2)).get.1 u W' := by
  revert hs
  unfold bldT
  split
  · rename_i q es fz hq hsh
    split
    · rename_i hc
      simp only [Bool.and_eq_true, beq_iff_eq, decide_eq_true_eq] at hc
      split
      · rename_i l hl
        intro _
        obtain ⟨k1, k2, k3, k4, k5, k6⟩ := kindT_ok hq
        have hf := frz_frzE H fz
        have hi1 := hi.frz hf
        have hlen : ps.size = n := by have := congrArg List.length hc.1; simpa using this
        obtain ⟨g1, g2⟩ := shutAs_sees hi (ps.toList.map fun p => ev p.2) (ps.toList.map fun p => a.eval p.2) es fz (by simp) (fun i v d hv hd => by
          rw [List.getElem?_map, Option.map_eq_some_iff] at hv hd
          obtain ⟨p, hp, rfl⟩ := hv
          obtain ⟨p', hp', rfl⟩ := hd
          rw [hp] at hp'
          cases hp'
          exact hev p (List.mem_of_getElem? hp)) hsh (off_frz hi fz)
        obtain ⟨t1, t2⟩ := toEls_at hl
        have hln : l.length = n := by rw [t1, g1]; simp [hlen]
        have hz := zOkL_get k5
        have hzs : q.z.cells.size = wid q.k := by
          have := hz.1
          rw [row_wid] at this
          simpa using this.symm
        -- each part's cells
        have hpart : ∀ (i : Nat) (p : Nat × Operand), ps.toList[i]? = some p → ∃ x, l[i]? = some x ∧ (a.eval p.2).cells.size = wid q.k ∧ ∀ (j : Nat) (e : Da), (row q.k x)[j]? = some e → ∃ u, (a.eval p.2).cells[j]? = some u ∧ Sees (Uof U0 (setAll (frzE H fz) H) m) W [] u e := fun i p hp => by
          have hil : i < l.length := by rw [hln, ← hlen]; simpa using (List.getElem?_eq_some_iff.1 hp).1
          obtain ⟨d, hd, hx⟩ := t2 i _ (List.getElem?_eq_getElem hil)
          have hs := g2 i (a.eval p.2) d (by rw [List.getElem?_map, hp]; rfl) hd
          obtain ⟨c1, c2⟩ := toEl_cells hx hs
          exact ⟨_, List.getElem?_eq_getElem hil, c1, c2⟩
        obtain ⟨cs, f1, f2, -, f4⟩ := fill_rows (wid q.k) (ps.toList.map fun p => (p.1, a.eval p.2)) 0 ((Array.range (n * wid q.k)).map fun i => q.z.cells[i % q.z.cells.size]!) (by
          rw [List.map_map, List.length_map, Array.length_toList, hlen, ← List.range_eq_range', ← hc.1]; rfl) (by simp [hlen]) (fun p hp => by
          obtain ⟨p', hp', rfl⟩ := List.mem_map.1 hp
          obtain ⟨i, hi', rfl⟩ := List.getElem_of_mem hp'
          obtain ⟨x, _, c1, _⟩ := hpart i _ (List.getElem?_eq_getElem hi')
          exact c1)
        have hw := wid_le q.k
        have hw0 := wid_pos q.k
        have hrun : (Instr.buildSlice t n (ps.map fun p => (p.1, a.eval p.2))).run P W = .ok (.slice (some ⟨W.heap.size, 0, none⟩) n n) (W.alloc (.cells cs q.e)) := by
          have hb : ¬ (16777216 < n * wid q.k) := by
            have : n * wid q.k ≤ 65536 * 64 := Nat.mul_le_mul hc.2 hw
            omega
          by_cases hn0 : n = 0
          · subst hn0
            have hps : ps = #[] := Array.eq_empty_of_size_eq_zero hlen
            subst hps
            have hcs : cs = #[] := Array.eq_empty_of_size_eq_zero (by simpa using f2)
            subst hcs
            simp [Instr.buildSlice, run_underlying k1, sizeOf, typeInfo, k2, k4, Instr.fill, newRow]
            congr 2
            exact Array.eq_empty_of_size_eq_zero (by simp)
          · have hne : ¬ (n * wid q.k = 0) := by
              intro h
              rcases Nat.mul_eq_zero.1 h with h | h <;> omega
            have f1' : Instr.fill (fun i => some (i * wid q.k, wid q.k)) (Array.map (fun x => q.z.cells[x % q.z.cells.size]!) (Array.range (n * wid q.k))) (ps.map fun p => (p.1, a.eval p.2)).toList = some cs := by
              rw [Array.toList_map]; exact f1
            have hw1 : ¬ wid q.k = 0 := by omega
            simp [Instr.buildSlice, run_underlying k1, sizeOf, typeInfo, k2, k4, hb, hn0, hw1, zeroValue, k3, f1, f1', newRow]
            exact fun h => absurd h hne
        have hB : Below W.heap.size W (W.alloc (.cells cs q.e)) := (Below.refl _ _).alloc (Nat.le_refl _) _
        have := done_list (H := setAll (frzE H fz) H) hi1 (Frz.refl _).kept hB (by simp) (e := q.e) (k := q.k) (l := l) (cap := n) (heap_alloc_new W (.cells cs q.e)) (by rw [f2]; simp) (by omega) (fun i j x d hi' hd => by
          have hil := (List.getElem?_eq_some_iff.1 hi').1
          have hip : i < ps.toList.length := by simp [hlen]; omega
          obtain ⟨x', hx', c1, c2⟩ := hpart i _ (List.getElem?_eq_getElem hip)
          rw [hi'] at hx'
          cases hx'
          obtain ⟨u, hu, hs⟩ := c2 j d hd
          refine ⟨u, ?_, hs⟩
          have := f4 i j _ (by rw [List.getElem?_map, List.getElem?_eq_getElem hip]; rfl) (row_lt hd)
          rw [Nat.zero_add] at this
          rw [this]
          exact hu)
        obtain ⟨m2, r1, r2⟩ := this
        have hq1 := hi.quiet hf (Below.refl _ _)
        have hlenf := hf.len
        refine ⟨_, _, hrun, m2, ?_, ?_⟩
        · have := hq1.trans (k := by simpa using r1)
          rw [List.nil_append] at this
          exact this
        · rw [hln, hlenf] at r2
          exact r2
      · intro hs; exact hs.elim
    · intro hs; exact hs.elim
  · intro hs; exact hs.elim
end
end Go.Proofs.YthlebalbiokjpaaGreat
namespace Go.Proofs.YthlebalbiokjpaaGreat
open Go.RowKit
set_option linter.unusedVariables false
set_option linter.unusedSimpArgs false
section
variable {P : Program} {Γ : Ctx} {U : Ex} {H H1 : List Bx} {U0 R : Ex} {m : List Loc} {a : Act} {W W' : World}
theorem cells_sees {v : Value} {d : Da} {ds : List Da} (hv : Sees U W m v d) (hd : d.cells = some ds) : v.cells.size = ds.length ∧ (∀ (j : Nat) (x : Value) (e : Da), v.cells[j]? = some x → ds[j]? = some e → Sees U W m x e) ∧ (ds.all Da.one = true → v.cells.toList.all (·.oneCell') = true) := by
  have single : ∀ {v : Value} {d : Da}, Sees U W m v d → v.cells = #[v] → v.cells.size = [d].length ∧ (∀ (j : Nat) (x : Value) (e : Da), v.cells[j]? = some x → [d][j]? = some e → Sees U W m x e) ∧ ([d].all Da.one = true → v.cells.toList.all (·.oneCell') = true) := by
    intro v d hv he
    rw [he]
    refine ⟨rfl, fun j x e hx hd => ?_, fun h => ?_⟩
    · cases j with
      | zero => simp at hx hd; subst hx hd; exact hv
      | succ j => simp at hd
    · simp at h
      simpa using hv.one h
  cases hv
  case agg vs es h1 h2 =>
    simp only [Da.cells, Option.some.injEq] at hd
    subst hd
    refine ⟨h1, h2, fun h => ?_⟩
    rw [List.all_eq_true] at h ⊢
    intro x hx
    obtain ⟨i, hi, rfl⟩ := List.getElem_of_mem hx
    have hi2 : i < vs.size := by simpa [Value.cells] using hi
    exact (h2 i _ _ (by simp [Value.cells]) (List.getElem?_eq_getElem (by omega))).one (h _ (List.getElem_mem _))
  case v =>
    cases v <;> first | (simp [Da.cells] at hd; done) | (simp only [Da.cells, Option.some.injEq] at hd; subst hd; exact single (.v _ _) rfl)
  case any => simp [Da.cells] at hd
  case tup => simp [Da.cells] at hd
  case opt c es h2 h1 =>
    simp only [Da.cells, Option.some.injEq] at hd
    subst hd
    refine single (.opt _ c _ es h1 h2) ?_
    cases c
    · rw [h2 rfl]; rfl
    · cases h1 rfl; rfl
  all_goals
    simp only [Da.cells, Option.some.injEq] at hd
    subst hd
    refine single ?_ rfl
    constructor <;> assumption
theorem run_store_any (w : World) (g o : Nat) (T E : TypeId) (cur : Array Value) (v : Value) (hb : w.heap[g]? = some (.cells cur E (0, 0))) (hs : o + v.cells.size ≤ cur.size) {i : TypeInfo} (hi : P.info? T = some i) (hz : i.size = v.cells.size) (h1 : v.cells.toList.all (·.oneCell') = true) :
    (Instr.storeAt T (.pointer (some ⟨g, o, none⟩)) v).run P w = .ok () (w.setRow g (layC0 cur o v.cells.toList)) := by
  have h := run_storeCells_at (P := P) g o E v.cells.toList 0 cur w hb (by simpa using hs) (fun u hu => List.all_eq_true.1 h1 u hu)
  simp only [Nat.add_zero, Array.length_toList] at h
  simp only [Instr.storeAt, Instr.sureAddr, Sem.run_bind, Sem.run_pure, Result.andThen_ok, storeVar, sizeOf, typeInfo]
  simp [hi, hz, h, layC0]
/-- Struct values put together. -/
theorem layD_ok {fs : List Field} {places : Array (Nat × Nat)} (hp : ∀ (i : Nat) (f : Field) (fi : TypeInfo), fs[i]? = some f → P.info? f.type = some fi → places[i]? = some (f.offset, fi.size)) : ∀ (ps : List (Nat × Da)) (vs : List (Nat × Value)) (ds es : List Da) (cells : Array Value), vs.length = ps.length → (∀ (i : Nat) (p : Nat × Da) (q : Nat × Value), ps[i]? = some p → vs[i]? = some q → q.1 = p.1 ∧ Sees U W m q.2 p.2) → layD P fs ds ps = some es → cells.size = ds.length → (∀ (j : Nat) (v : Value) (d : Da), cells[j]? = some v → ds[j]? = some d → Sees U W m v d) →
    ∃ cs, Instr.fill (places[·]?) cells vs = some cs ∧ cs.size = es.length ∧ ∀ (j : Nat) (v : Value) (d : Da), cs[j]? = some v → es[j]? = some d → Sees U W m v d
  | [], vs, ds, es, cells, hl, _, h, hs, hc => by
    simp only [layD, Option.some.injEq] at h
    subst h
    have : vs = [] := List.eq_nil_of_length_eq_zero (by simpa using hl)
    subst this
    exact ⟨cells, rfl, hs, hc⟩
  | (i, d) :: r, [], ds, es, cells, hl, _, _, _, _ => by simp at hl
  | (i, d) :: r, (i', v) :: vs, ds, es, cells, hl, hv, h, hs, hc => by
    obtain ⟨e1, e2⟩ := hv 0 _ _ rfl rfl
    simp only at e1 e2
    subst e1
    simp only [layD] at h
    split at h <;> try (cases h; done)
    rename_i f xs hf hx
    split at h <;> try (cases h; done)
    rename_i fi hfi
    split at h <;> try (cases h; done)
    rename_i hcond
    simp only [Bool.and_eq_true, beq_iff_eq, decide_eq_true_eq] at hcond
    obtain ⟨c1, c2, -⟩ := cells_sees e2 hx
    have hpl := hp i' f fi hf hfi
    have hlen : (ds.take f.offset ++ xs ++ ds.drop (f.offset + xs.length)).length = ds.length := by simp; omega
    obtain ⟨f1, f2⟩ := fill_one cells v.cells f.offset (by omega)
    obtain ⟨cs, g1, g2, g3⟩ := layD_ok hp r vs _ es (v.cells.zipIdx.foldl (fun cs (x : Value × Nat) => cs.setIfInBounds (f.offset + x.2) x.1) cells) (by simpa using hl) (fun j p q a b => hv (j + 1) p q (by simpa using a) (by simpa using b)) h (by rw [f1, hlen, hs]) (fun j u e hu he => by
      rw [f2] at hu
      rw [List.append_assoc] at he
      have ht : (ds.take f.offset).length = f.offset := by simp; omega
      by_cases h1 : j < f.offset
      · rw [if_neg (by omega)] at hu
        rw [List.getElem?_append_left (by omega), List.getElem?_take, if_pos h1] at he
        exact hc j u e hu he
      · rw [List.getElem?_append_right (by omega), ht] at he
        by_cases h2 : j < f.offset + xs.length
        · rw [if_pos (by omega)] at hu
          rw [List.getElem?_append_left (by omega)] at he
          exact c2 _ u e hu he
        · rw [if_neg (by omega)] at hu
          rw [List.getElem?_append_right (by omega), List.getElem?_drop] at he
          refine hc j u e hu ?_
          rw [← he]
          congr 1
          omega)
    refine ⟨cs, ?_, g2, g3⟩
    unfold Instr.fill
    have hb : (decide (v.cells.size ≠ fi.size) || decide (f.offset + v.cells.size > cells.size)) = false := by
      simp only [Bool.or_eq_false_iff, decide_eq_false_iff_not]
      exact ⟨fun h => h (by omega), by omega⟩
    simp only [hpl]
    rw [hb]
    exact g1
theorem mapM_ok {α β : Type} {P : Program} {W : World} {g : α → Sem β} {r : α → β} : ∀ (l : List α), (∀ x ∈ l, (g x).run P W = .ok (r x) W) → (l.mapM g).run P W = .ok (l.map r) W
  | [], _ => by simp
  | x :: l, h => by
    rw [List.mapM_cons]
    simp only [Sem.run_bind, h x List.mem_cons_self, mapM_ok l fun y hy => h y (List.mem_cons_of_mem _ hy), Sem.run_pure, Result.andThen_ok, List.map_cons]
theorem bsT_run (t : TypeId) (ps : Array (Nat × Operand)) (ev : Operand → Da) (hev : ∀ p ∈ ps.toList, Sees U W m (a.eval p.2) (ev p.2)) (hs : (bsT P t (ps.toList.map fun p => (p.1, ev p.2))).safe) :
    ∃ v, (Instr.build t (ps.map fun p => (p.1, a.eval p.2))).run P W = .ok v W ∧ Sees U W m v (bsT P t (ps.toList.map fun p => (p.1, ev p.2))).get.1 := by
  revert hs
  unfold bsT
  split
  · rename_i fs i hu hi
    split
    · rename_i z hz
      cases hall : (fs.toList.all fun f => (P.info? f.type).isSome) with
      | true =>
        simp only [cond_true]
        split
        · rename_i es hes
          intro _
          rw [List.all_eq_true] at hall
          have hm : (fs.mapM fun f => (do pure (f.offset, ← sizeOf f.type) : Sem (Nat × Nat))).run P W = .ok (fs.toList.map fun f => (f.offset, ((P.info? f.type).getD default).size)).toArray W := by
            rw [Array.mapM_eq_mapM_toList]
            have := mapM_ok (P := P) (W := W) (g := fun f : Field => (do pure (f.offset, ← sizeOf f.type) : Sem (Nat × Nat))) (r := fun f : Field => (f.offset, ((P.info? f.type).getD default).size)) fs.toList (fun f hf => by
              obtain ⟨fi, hfi⟩ := Option.isSome_iff_exists.1 (hall f hf)
              simp [sizeOf, typeInfo, hfi])
            simp only [Sem.run_map, this]
            first | rfl | simp
          obtain ⟨cs, g1, g2, g3⟩ := layD_ok (U := U) (W := W) (m := m) (places := (fs.toList.map fun f => (f.offset, ((P.info? f.type).getD default).size)).toArray) (fun i f fi hf hfi => by rw [List.getElem?_toArray, List.getElem?_map, hf, Option.map_some, hfi]; rfl) _ (ps.toList.map fun p => (p.1, a.eval p.2)) _ es z.cells (by simp) (fun i p q hp hq => by
            rw [List.getElem?_map, Option.map_eq_some_iff] at hp hq
            obtain ⟨x, hx, rfl⟩ := hp
            obtain ⟨y, hy, rfl⟩ := hq
            rw [hx] at hy
            cases hy
            exact ⟨rfl, hev x (List.mem_of_getElem? hx)⟩) hes (by simp) (fun j v d hv hd => by
            rw [List.getElem?_map, Array.getElem?_toList, hv] at hd
            cases hd
            exact .v _ _)
          refine ⟨.agg cs, ?_, .agg _ _ _ g2 g3⟩
          generalize (fs.toList.map fun f => (f.offset, ((P.info? f.type).getD default).size)).toArray = pl at hm g1
          have g1' : Instr.fill (fun x => pl[x]?) z.cells (ps.map fun p => (p.1, a.eval p.2)).toList = some cs := by rw [Array.toList_map]; exact g1
          have hzv : (zeroValue t).run P W = .ok z W := by simp [zeroValue, typeInfo, hi, hz]
          unfold Instr.build
          simp only [Sem.run_bind, hzv, run_underlying hu, Result.andThen_ok, hm, g1', Sem.run_pure]
        · intro hs; exact hs.elim
      | false => intro hs; exact hs.elim
    · intro hs; exact hs.elim
  · intro hs; exact hs.elim
end
end Go.Proofs.YthlebalbiokjpaaGreat
namespace Go.Proofs.YthlebalbiokjpaaGreat
open Go.RowKit
set_option linter.unusedVariables false
set_option linter.unusedSimpArgs false
section
variable {P : Program} {Γ : Ctx} {U : Ex} {H H1 : List Bx} {U0 R : Ex} {m : List Loc} {a : Act} {W W' : World}
theorem app_set (H : List Bx) (b : Nat) (y : Bx) : (⟨[(b, y)], []⟩ : Eff).app H = H.set b y := by simp [Eff.app, setAll]
theorem setAll_snoc : ∀ (l : List (Nat × Bx)) (p : Nat × Bx) (H : List Bx), setAll (l ++ [p]) H = (setAll l H).set p.1 p.2
  | [], _, _ => rfl
  | q :: r, p, H => by rw [List.cons_append, setAll, setAll, setAll_snoc r]
theorem layD_at {ds es xs : List Da} {o : Nat} (hle : o + xs.length ≤ ds.length) : ∀ (j : Nat) (e : Da), (ds.take o ++ xs ++ ds.drop (o + xs.length))[j]? = some e → (j < o ∧ ds[j]? = some e) ∨ (o ≤ j ∧ j < o + xs.length ∧ xs[j - o]? = some e) ∨ (o + xs.length ≤ j ∧ ds[j]? = some e) := by
  intro j e he
  have ht : (ds.take o).length = o := by simp; omega
  rw [List.append_assoc] at he
  by_cases h1 : j < o
  · rw [List.getElem?_append_left (by omega), List.getElem?_take, if_pos h1] at he
    exact .inl ⟨h1, he⟩
  · rw [List.getElem?_append_right (by omega), ht] at he
    by_cases h2 : j < o + xs.length
    · rw [List.getElem?_append_left (by omega)] at he
      exact .inr (.inl ⟨by omega, h2, he⟩)
    · rw [List.getElem?_append_right (by omega), List.getElem?_drop] at he
      refine .inr (.inr ⟨by omega, ?_⟩)
      rw [← he]
      congr 1
      omega
/-- A cell of a variable is written. -/
theorem store_box (hi : HI U0 H m W) {t : TypeId} {b off : Nat} {w : Value} {e : Da} {ty : TypeId} {cs ds : List Da} {dp : Bool} {i : TypeInfo} {L : Loc} (hb : H[b]? = some ⟨ty, .cells cs, false, dp⟩) (hL : m[b]? = some L) (hw : Sees (Uof U0 H m) W m w e) (hti : P.info? t = some i) (hds : e.cells = some ds) (h1 : i.size = ds.length) (h2 : off + ds.length ≤ cs.length) (h3 : ds.all Da.one = true) :
    ∃ W', (Instr.storeAt t (.pointer (some ⟨L.blk, off, none⟩)) w).run P W = .ok () W' ∧ Turned U0 H m W (H.set b ⟨ty, .cells (cs.take off ++ ds ++ cs.drop (off + ds.length)), false, dp⟩) [] W' := by
  obtain ⟨c1, c2, c3⟩ := cells_sees hw hds
  obtain ⟨hon, cur, g1, g2, g3⟩ := hi.bx b _ L hb hL
  have hz : off + w.cells.toList.length ≤ cur.size := by simp [c1]; omega
  have hr := run_store_any (P := P) W L.blk off t ty cur w g1 (by simpa using hz) hti (by omega) (c3 h3)
  refine ⟨_, hr, (done_set hi (Frz.refl H) hb rfl rfl (fun y hy => by rw [hb] at hy; cases hy; rfl) hL hon g1 (layC0 cur off w.cells.toList) ⟨ty, .cells (cs.take off ++ ds ++ cs.drop (off + ds.length)), false, dp⟩ rfl fun {U' m'} tr tr0 tr1 hrow => ⟨hon, _, hrow, by rw [layC0_size hz, g2]; simp; omega, fun j v d hv hd => ?_⟩).1⟩
  rw [layC0_get hz, Array.length_toList, c1] at hv
  rcases layD_at (es := cs) h2 j d hd with ⟨q1, q2⟩ | ⟨q1, q2, q3⟩ | ⟨q1, q2⟩
  · rw [if_pos q1] at hv
    exact tr _ _ (g3 j v d hv q2)
  · rw [if_neg (by omega), if_pos q2, Array.getElem?_toList] at hv
    exact tr _ _ (c2 _ v d hv q3)
  · rw [if_neg (by omega), if_neg (by omega)] at hv
    exact tr _ _ (g3 j v d hv q2)
theorem frz_not {fz : List Nat} {b : Nat} (h : fz.contains b = false) : ∀ {G : List Bx}, (setAll (frzE H fz) G)[b]? = G[b]? := by
  induction fz with
  | nil => intro G; rfl
  | cons c r ih =>
    intro G
    simp only [List.contains_cons, Bool.or_eq_false_iff, beq_eq_false_iff_ne] at h
    unfold frzE
    simp only [List.filterMap_cons]
    cases hc : H[c]? with
    | none => exact ih h.2
    | some x =>
      simp only [setAll]
      refine (ih h.2).trans ?_
      rw [List.getElem?_set_ne (fun e => h.1 e.symm)]
/-- A cell of an element of a slice of ours. -/
theorem store_elt (hi : HI U0 H m W) {t : TypeId} {k : Kd} {b j off : Nat} {w : Value} {e : Da} {ty : TypeId} {l : List (El k)} {es ds : List Da} {fz : List Nat} {dp : Bool} {i : TypeInfo} {L : Loc} {x : El k} (hb : H[b]? = some ⟨ty, .list k l, false, dp⟩) (hL : m[b]? = some L) (hj : j < L.len) (hw : Sees (Uof U0 H m) W m w e) (hti : P.info? t = some i) (hds : e.cells = some es) (hcl : closeL H es = some (ds, fz)) (h1 : i.size = ds.length) (h2 : off + ds.length ≤ wid k) (hfz : fz.contains b = false)
    (hx : un k ((row k (l.getD j default)).take off ++ ds ++ (row k (l.getD j default)).drop (off + ds.length)) = some x) :
    ∃ W', (Instr.storeAt t (.pointer (some ⟨L.blk, j * wid k + off, none⟩)) w).run P W = .ok () W' ∧ Turned U0 H m W ((setAll (frzE H fz) H).set b ⟨ty, .list k (l.set j x), false, false⟩) [] W' := by
  have hf := frz_frzE H fz
  have hi1 := hi.frz hf
  have hoff := off_frz hi fz
  obtain ⟨c1, c2, c3⟩ := cells_sees hw hds
  obtain ⟨d1, d2⟩ := closeL_sees (U := Uof U0 (setAll (frzE H fz) H) m) hi es ds fz hcl hoff
  obtain ⟨b1, b2, b3, b4⟩ := hi.bx b _ L hb hL
  have hon := b3 (by omega)
  obtain ⟨cur, g1, g2, g3, -⟩ := b4 hon
  have hlaw := un_law k _ x hx
  have hjl : j < l.length := by omega
  have hold : l[j]? = some (l.getD j default) := by rw [List.getD_eq_getElem?_getD, List.getElem?_eq_getElem hjl]; rfl
  have hrowlen := row_wid k (l.getD j default)
  have hrj := fun (q : Nat) (d : Da) (h : (row k (l.getD j default))[q]? = some d) => g3 j q _ d hold h
  generalize row k (l.getD j default) = R at hrowlen hrj hlaw
  have hcell : ∀ (q : Nat) (u : Value), w.cells[q]? = some u → ∃ (d : Da), ds[q]? = some d ∧ Sees (Uof U0 (setAll (frzE H fz) H) m) W [] u d := fun q u hu => by
    have hq : q < es.length := by rw [← c1]; exact (Array.getElem?_eq_some_iff.1 hu).1
    have hq2 : q < ds.length := by omega
    obtain ⟨d, e1, e2⟩ := d2 q _ (List.getElem?_eq_getElem hq2)
    exact ⟨_, List.getElem?_eq_getElem hq2, e2 _ (c2 q u d hu e1)⟩
  have hone : w.cells.toList.all (·.oneCell') = true := by
    rw [List.all_eq_true]
    intro u hu
    obtain ⟨q, hq, rfl⟩ := List.getElem_of_mem hu
    have hq' : w.cells[q]? = some w.cells.toList[q] := by rw [← Array.getElem?_toList, List.getElem?_eq_getElem hq]
    obtain ⟨d, e1, e2⟩ := hcell q _ hq'
    have hqd := (List.getElem?_eq_some_iff.1 e1).1
    -- what is laid there holds a cell of the row
    have ht : (R.take off).length = off := by simp; omega
    have hlay : (R.take off ++ ds ++ R.drop (off + ds.length))[off + q]? = some d := by
      rw [List.append_assoc, List.getElem?_append_right (by omega), ht, List.getElem?_append_left (by omega), ← e1]
      congr 1
      omega
    have hlen := hlaw.len
    rw [row_wid] at hlen
    obtain ⟨rd, hrd⟩ := row_some (k := k) x (j := off + q) (by omega)
    obtain ⟨d', h3, h4⟩ := hlaw.at_ _ rd hrd
    rw [hlay] at h3
    cases h3
    exact (h4 _ _ _ _ e2).one (row_one k x rd (List.mem_of_getElem? hrd))
  have hz : j * wid k + off + w.cells.toList.length ≤ cur.size := by
    have := cell_lt (n := L.cap) (w := wid k) (i := j) (j := wid k - 1) (by omega) (by have := wid_pos k; omega)
    rw [g2, Array.length_toList, c1]
    omega
  have hr := run_store_any (P := P) W L.blk (j * wid k + off) t ty cur w g1 (by simpa using hz) hti (by omega) hone
  have hbH : ∃ x', (setAll (frzE H fz) H)[b]? = some x' ∧ x'.live = true := by
    have hlt : b < (setAll (frzE H fz) H).length := by rw [hf.len]; exact (List.getElem?_eq_some_iff.1 hb).1
    obtain ⟨y, q1, q2, -, -⟩ := hf.live (List.getElem?_eq_getElem hlt)
    rw [hb] at q1
    cases q1
    exact ⟨_, List.getElem?_eq_getElem hlt, q2⟩
  refine ⟨_, hr, (done_set hi hf hb rfl rfl (fun y hy => ?_) hL hon g1 (layC0 cur (j * wid k + off) w.cells.toList) ⟨ty, .list k (l.set j x), false, false⟩ rfl fun {U' m'} tr tr0 tr1 hrow => ?_).1⟩
  · rw [frz_not hfz, hb] at hy
    cases hy; rfl
  refine ⟨by rw [List.length_set]; exact b1, by rw [List.length_set]; exact b2, fun _ => hon, fun _ => ⟨_, hrow, by rw [layC0_size hz, g2], fun i' j' y d hy hd => ?_, fun h => by cases h⟩⟩
  have hj' := row_lt hd
  rw [List.getElem?_set] at hy
  by_cases e1 : j = i'
  · subst e1
    rw [if_pos rfl, if_pos hjl] at hy
    cases hy
    obtain ⟨d', h3, h4⟩ := hlaw.at_ _ d hd
    rcases layD_at (es := es) (by rw [hrowlen]; exact h2) j' d' h3 with ⟨q1, q2⟩ | ⟨q1, q2, q3⟩ | ⟨q1, q2⟩
    · obtain ⟨u, hu, hs⟩ := hrj j' d' q2
      refine ⟨u, ?_, h4 _ _ _ _ (tr0 _ _ hs)⟩
      rw [layC0_get hz, if_pos (by omega)]; exact hu
    · have hq2 : j' - off < es.length := by omega
      have hq3 : j' - off < w.cells.size := by omega
      obtain ⟨d'', e1, e2⟩ := d2 _ _ q3
      have hs := c2 _ _ d'' (Array.getElem?_eq_getElem hq3) e1
      have hsf := e2 _ hs
      refine ⟨w.cells[j' - off], ?_, h4 _ _ _ _ ?_⟩
      · rw [layC0_get hz, if_neg (by omega), if_pos (by rw [Array.length_toList, c1]; omega), Array.getElem?_toList]
        rw [show j * wid k + j' - (j * wid k + off) = j' - off from by omega]
        exact Array.getElem?_eq_getElem hq3
      · exact tr1 _ _ hsf
    · obtain ⟨u, hu, hs⟩ := hrj j' d' q2
      refine ⟨u, ?_, h4 _ _ _ _ (tr0 _ _ hs)⟩
      rw [layC0_get hz, if_neg (by omega), if_neg (by rw [Array.length_toList, c1]; omega)]; exact hu
  · rw [if_neg e1] at hy
    obtain ⟨u, hu, hs⟩ := g3 i' j' y d hy hd
    refine ⟨u, ?_, tr0 _ _ hs⟩
    rw [layC0_get hz]
    have hw0 := wid_pos k
    by_cases hlt : i' < j
    · have : i' * wid k + j' < j * wid k := cell_lt hlt hj'
      rw [if_pos (by omega)]; exact hu
    · have : (j + 1) * wid k ≤ i' * wid k := Nat.mul_le_mul_right _ (by omega)
      rw [Nat.add_mul, Nat.one_mul] at this
      rw [if_neg (by omega), if_neg (by rw [Array.length_toList, c1]; omega)]; exact hu
end
end Go.Proofs.YthlebalbiokjpaaGreat
namespace Go.Proofs.YthlebalbiokjpaaGreat
open Go.RowKit
set_option linter.unusedVariables false
set_option linter.unusedSimpArgs false
theorem idx_some {l : List Nat} {b i : Nat} (h : idx l b = some i) : l[i]? = some b := by
  induction l generalizing i with
  | nil => cases h
  | cons a r ih =>
    unfold idx at h
    split at h
    · rename_i e
      cases h
      have : a = b := by simpa using e
      simp [this]
    · rw [Option.map_eq_some_iff] at h
      obtain ⟨j, hj, rfl⟩ := h
      simpa using ih hj
theorem idx_of {l : List Nat} {b i : Nat} (hn : l.Nodup) (h : l[i]? = some b) : idx l b = some i := by
  induction l generalizing i with
  | nil => simp at h
  | cons a r ih =>
    unfold idx
    rw [List.nodup_cons] at hn
    cases i with
    | zero => simp at h; subst h; simp
    | succ i =>
      have h' : r[i]? = some b := by simpa using h
      have hne : (a == b) = false := by
        simp only [beq_eq_false_iff_ne]
        intro e
        subst e
        exact hn.1 (List.mem_of_getElem? h')
      rw [hne]
      simp [ih hn.2 h']
theorem idx_none {l : List Nat} {b : Nat} (h : idx l b = none) : l.contains b = false := by
  induction l with
  | nil => rfl
  | cons a r ih =>
    unfold idx at h
    split at h
    · cases h
    · rename_i e
      rw [Option.map_eq_none_iff] at h
      simp only [List.contains_cons, Bool.or_eq_false_iff]
      refine ⟨?_, ih h⟩
      simp only [beq_eq_false_iff_ne]
      intro e2
      subst e2
      exact e (by simp)
theorem reachG_nodup (H : List Bx) : ∀ (n : Nat) (todo acc : List Nat), acc.Nodup → (reachG H n todo acc).Nodup
  | 0, todo, acc, h => by unfold reachG; exact h
  | n + 1, [], acc, h => by unfold reachG; exact h
  | n + 1, b :: r, acc, h => by
    unfold reachG
    split
    · exact reachG_nodup H n r acc h
    · rename_i hc
      refine reachG_nodup H n _ _ ?_
      rw [List.nodup_append]
      refine ⟨h, by simp, fun x hx y hy => ?_⟩
      simp at hy
      subst hy
      intro e
      subst e
      exact hc (by simpa using hx)
theorem setAll_other : ∀ (l : List (Nat × Bx)) (H : List Bx) (p : Nat), (∀ x ∈ l, x.1 ≠ p) → (setAll l H)[p]? = H[p]?
  | [], H, p, _ => rfl
  | x :: r, H, p, h => by
    rw [setAll, setAll_other r _ p fun y hy => h y (List.mem_cons_of_mem _ hy), List.getElem?_set_ne (h x List.mem_cons_self)]
theorem setAll_zip : ∀ (rs : List Nat) (xs H : List Bx) (i b : Nat), rs.Nodup → rs[i]? = some b → i < xs.length → b < H.length → (setAll (rs.zip xs) H)[b]? = xs[i]?
  | [], xs, H, i, b, _, h, _, _ => by simp at h
  | a :: r, [], H, i, b, _, _, hx, _ => by simp at hx
  | a :: r, x :: xs, H, i, b, hn, h, hx, hb => by
    rw [List.nodup_cons] at hn
    rw [List.zip_cons_cons, setAll]
    cases i with
    | zero =>
      simp at h
      subst h
      rw [setAll_other _ _ _ fun y hy => ?_, List.getElem?_set, if_pos rfl, if_pos hb]
      · simp
      · intro e
        have := (List.of_mem_zip hy).1
        rw [e] at this
        exact hn.1 this
    | succ i =>
      have h' : r[i]? = some b := by simpa using h
      rw [setAll_zip r xs _ i b hn.2 h' (by simpa using hx) (by simpa using hb)]
      simp
section
variable {P : Program} {Γ : Ctx} {U : Ex} {H H1 : List Bx} {U0 R : Ex} {m : List Loc} {a : Act} {W W' : World}
theorem done_gives {o : Oper} {e : Eff} {d : Da} {v : Value} (hr : (execOp a.eval o).run P W = .ok (.value v) W') (h : Done U0 H m W e d v W') : gives P o a W (Done U0 H m W e d) := gives_value hr h
theorem done_quiet (hi : HI U0 H m W) {d : Da} {v : Value} (hs : Sees (Uof U0 H m) W m v d) : Done U0 H m W Eff.no d v W :=
  ⟨[], by rw [app_no]; exact Turned.refl hi, by rw [app_no, List.append_nil]; exact hs⟩
/-- A function that is handed nothing of ours. -/
theorem closed_ok (hi : HI U0 H m W) {f : FuncId} {ds es : List Da} {fz : List Nat} {r : Da} {vs : Array Value} (hl : vs.size = ds.length) (hv : ∀ (i : Nat) (v : Value) (d : Da), vs[i]? = some v → ds[i]? = some d → Sees (Uof U0 H m) W m v d) (hsh : shutAs H ds = some (es, fz)) (hok : OkC P f es r) :
    Calls P f vs W fun e w' => ∃ v, e = .returned v ∧ Done U0 H m W ⟨bif r.flat then [] else frzE H fz, []⟩ r v w' := by
  cases hf : r.flat with
  | true =>
    obtain ⟨g1, g2⟩ := shutAs_sees hi ds vs.toList es fz (by simpa using hl) (fun i v d a b => hv i v d (by simpa using a) b) hsh (off_hid hi fz)
    refine (hok _ W vs (fun k hk => hi.ult k hk.1) (by rw [g1, hl]) (fun i v d a b => g2 i v d (by simpa using a) b)).mono fun e w' ⟨v, he, h1, h2⟩ => ⟨v, he, [], ?_, h1.flat hf⟩
    have : (⟨bif true then [] else frzE H fz, []⟩ : Eff).app H = H := by simp [Eff.app, setAll]
    rw [this]
    exact hi.quiet (Frz.refl H) h2
  | false =>
    obtain ⟨g1, g2⟩ := shutAs_sees hi ds vs.toList es fz (by simpa using hl) (fun i v d a b => hv i v d (by simpa using a) b) hsh (off_frz hi fz)
    have hf2 := frz_frzE H fz
    have hi1 := hi.frz hf2
    refine (hok _ W vs (fun k hk => hi1.ult k hk) (by rw [g1, hl]) (fun i v d a b => g2 i v d (by simpa using a) b)).mono fun e w' ⟨v, he, h1, h2⟩ => ⟨v, he, [], ?_, ?_⟩
    · have : (⟨bif false then [] else frzE H fz, []⟩ : Eff).app H = setAll (frzE H fz) H := by simp [Eff.app]
      rw [this]
      exact hi.quiet hf2 h2
    · have : (⟨bif false then [] else frzE H fz, []⟩ : Eff).app H = setAll (frzE H fz) H := by simp [Eff.app]
      rw [this, List.append_nil]
      exact h1.free
/-- What callX gives. -/
def sigma (rs : List Nat) (nH : Nat) : Nat → Option Nat := fun j => if j < rs.length then rs[j]? else some (nH + (j - rs.length))
def effX (rs : List Nat) (nH : Nat) (H' : List Bx) : Eff := ⟨rs.zip ((H'.take rs.length).map (Bx.ren (sigma rs nH))), (H'.drop rs.length).map (Bx.ren (sigma rs nH))⟩
theorem ren_id (x : Bx) (f : Nat → Option Nat) : x.ren f = { (x.ren f) with fr := x.fr } := by
  obtain ⟨ty, c, fr, dp⟩ := x
  cases c <;> rfl
theorem own_ok (hi : HI U0 H m W) {f : FuncId} {ds : List Da} {rs : List Nat} {H' : List Bx} {r : Da} {vs : Array Value} (hl : vs.size = ds.length) (hv : ∀ (i : Nat) (v : Value) (d : Da), vs[i]? = some v → ds[i]? = some d → Sees (Uof U0 H m) W m v d) (hn : rs.Nodup) (hle : rs.length ≤ H'.length) (hlt : ∀ b ∈ rs, b < H.length) (hok : OkX P f (rs.map fun b => (H.getD b Bx.gone).ren (idx rs)) (Da.renL (idx rs) ds) H' r) :
    Calls P f vs W fun e w' => ∃ v, e = .returned v ∧ Done U0 H m W (effX rs H.length H') (r.ren (sigma rs H.length)) v w' := by
  have him := hi.mask (q := rs)
  have hml := hi.ml
  -- our variables under the callee's names
  have rm : Remap (idx rs) (fun p => rs.getD p 0) (maskI rs 0 H) m (rs.map fun b => (H.getD b Bx.gone).ren (idx rs)) (rs.map fun b => m.getD b default) := by
    refine ⟨by simp, fun p x' hp hlv => ?_, fun p p' x x' h1 h2 h3 h4 h5 => ?_, fun b b' L h1 h2 => ?_⟩
    · rw [List.getElem?_map, Option.map_eq_some_iff] at hp
      obtain ⟨b, hb, rfl⟩ := hp
      have hbl := hlt b (List.mem_of_getElem? hb)
      have hgb : rs.getD p 0 = b := by rw [List.getD_eq_getElem?_getD, hb]; rfl
      have hHb : H.getD b Bx.gone = H[b] := by rw [List.getD_eq_getElem?_getD, List.getElem?_eq_getElem hbl]; rfl
      rw [hHb] at hlv ⊢
      rw [Bx.ren_live] at hlv
      refine ⟨H[b], H[b].fr, ?_, hlv, ?_, ren_id _ _, id⟩
      · rw [hgb, maskI_get, List.getElem?_eq_getElem hbl, Option.map_some, Nat.zero_add, if_pos (by simpa using List.mem_of_getElem? hb)]
      · rw [List.getElem?_map, hb, Option.map_some, hgb, List.getElem?_eq_getElem (by omega), List.getD_eq_getElem?_getD, List.getElem?_eq_getElem (by omega)]; rfl
    · have hp1 : p < rs.length := by simpa using (List.getElem?_eq_some_iff.1 h1).1
      have hp2 : p' < rs.length := by simpa using (List.getElem?_eq_some_iff.1 h3).1
      simp only [List.getD_eq_getElem?_getD, List.getElem?_eq_getElem hp1, List.getElem?_eq_getElem hp2, Option.getD_some] at h5
      exact (List.getElem_inj hn).1 h5
    · have := idx_some h1
      rw [List.getElem?_map, this, Option.map_some, List.getD_eq_getElem?_getD, h2]; rfl
  have hi0 := him.remap rm
  have hU : Uof (Hid U0 rs H m) (maskI rs 0 H) m = Uof U0 H m := uof_eq hid_uof
  refine (hok (Hid U0 rs H m) _ W vs hi0 (by rw [Da.renL_len]; exact hl) (fun i v d a b => ?_)).mono fun e w' ⟨v, m2, he, ht, hs⟩ => ⟨v, he, m2, ?_⟩
  · rw [Da.renL_get, Option.map_eq_some_iff] at b
    obtain ⟨d', hd', rfl⟩ := b
    exact rm.sees (by rw [hU]; exact hv i v d' a hd')
  -- and back
  let G := setAll (rs.zip ((H'.take rs.length).map (Bx.ren (sigma rs H.length)))) (maskI rs 0 H) ++ (H'.drop rs.length).map (Bx.ren (sigma rs H.length))
  have hGl : G.length = H.length + (H'.length - rs.length) := by simp [G, setAll_len, maskI_len]
  have hm2 : m2.length = H'.length - rs.length := by
    have := ht.hi.ml
    simp at this; omega
  have hG1 : ∀ (p : Nat) (x : Bx), G[p]? = some x → x.live = true → p < H.length → ∃ i, rs[i]? = some p ∧ ∃ y : Bx, H'[i]? = some y ∧ x = y.ren (sigma rs H.length) := fun p x hp hlv hpl => by
    have hp' : (setAll (rs.zip ((H'.take rs.length).map (Bx.ren (sigma rs H.length)))) (maskI rs 0 H))[p]? = some x := by
      rw [← hp]
      simp only [G]
      rw [List.getElem?_append_left (by rw [setAll_len, maskI_len]; exact hpl)]
    cases hix : idx rs p with
    | none =>
      rw [setAll_other _ _ _ fun y hy e => ?_] at hp'
      · obtain ⟨c, -⟩ := mask_at hp' hlv
        rw [idx_none hix] at c; cases c
      · have := (List.of_mem_zip hy).1
        rw [e] at this
        have hc := idx_none hix
        simp at hc
        exact hc this
    | some i =>
      have hri := idx_some hix
      have hil := (List.getElem?_eq_some_iff.1 hri).1
      rw [setAll_zip rs _ _ i p hn hri (by simp; omega) (by rw [maskI_len]; exact hpl), List.getElem?_map, List.getElem?_take, if_pos hil, Option.map_eq_some_iff] at hp'
      obtain ⟨y, hy, rfl⟩ := hp'
      exact ⟨i, hri, y, hy, rfl⟩
  have hG2 : ∀ (p : Nat) (x : Bx), G[p]? = some x → ¬ p < H.length → ∃ y : Bx, H'[rs.length + (p - H.length)]? = some y ∧ x = y.ren (sigma rs H.length) := fun p x hp hpl => by
    simp only [G] at hp
    rw [List.getElem?_append_right (by rw [setAll_len, maskI_len]; omega), setAll_len, maskI_len, List.getElem?_map, List.getElem?_drop, Option.map_eq_some_iff] at hp
    obtain ⟨y, hy, rfl⟩ := hp
    exact ⟨y, hy, rfl⟩
  have rb : Remap (sigma rs H.length) (fun p => if p < H.length then (idx rs p).getD 0 else rs.length + (p - H.length)) H' ((rs.map fun b => m.getD b default) ++ m2) G (m ++ m2) := by
    refine ⟨by simp [hGl, hml, hm2], fun p x' hp hlv => ?_, fun p p' x x' h1 h2 h3 h4 h5 => ?_, fun b b' L h1 h2 => ?_⟩
    · by_cases hpl : p < H.length
      · obtain ⟨i, hri, y, hy, rfl⟩ := hG1 p x' hp hlv hpl
        have hil := (List.getElem?_eq_some_iff.1 hri).1
        simp only [hpl, if_true, idx_of hn hri, Option.getD_some]
        rw [Bx.ren_live] at hlv
        refine ⟨y, y.fr, hy, hlv, ?_, ren_id _ _, id⟩
        rw [List.getElem?_append_left (by omega), List.getElem?_append_left (by simp; exact hil), List.getElem?_map, hri, Option.map_some, List.getElem?_eq_getElem (by omega), List.getD_eq_getElem?_getD, List.getElem?_eq_getElem (by omega)]; rfl
      · obtain ⟨y, hy, rfl⟩ := hG2 p x' hp hpl
        simp only [hpl, if_false]
        rw [Bx.ren_live] at hlv
        refine ⟨y, y.fr, hy, hlv, ?_, ren_id _ _, id⟩
        rw [List.getElem?_append_right (by omega), List.getElem?_append_right (by simp), List.length_map]
        congr 1
        omega
    · have hi1 := (List.getElem?_eq_some_iff.1 h1).1
      have hi3 := (List.getElem?_eq_some_iff.1 h3).1
      by_cases hpl : p < H.length <;> by_cases hpl' : p' < H.length <;> simp only [hpl, hpl', if_true, if_false] at h5
      · obtain ⟨i, hri, -⟩ := hG1 p x h1 h2 hpl
        obtain ⟨i', hri', -⟩ := hG1 p' x' h3 h4 hpl'
        rw [idx_of hn hri, idx_of hn hri'] at h5
        simp at h5
        subst h5
        rw [hri] at hri'
        cases hri'; rfl
      · obtain ⟨i, hri, -⟩ := hG1 p x h1 h2 hpl
        have := (List.getElem?_eq_some_iff.1 hri).1
        rw [idx_of hn hri] at h5
        simp at h5
        omega
      · obtain ⟨i, hri, -⟩ := hG1 p' x' h3 h4 hpl'
        have := (List.getElem?_eq_some_iff.1 hri).1
        rw [idx_of hn hri] at h5
        simp at h5
        omega
      · omega
    · unfold sigma at h1
      split at h1
      · rename_i hb
        rw [List.getElem?_append_left (by simp; exact hb), List.getElem?_map, h1, Option.map_some] at h2
        have hbl := hlt b' (List.mem_of_getElem? h1)
        rw [List.getElem?_append_left (by omega), List.getElem?_eq_getElem (by omega), ← h2, List.getD_eq_getElem?_getD, List.getElem?_eq_getElem (by omega)]; rfl
      · rename_i hb
        cases h1
        rw [List.getElem?_append_right (by simp; omega), List.length_map] at h2
        rw [List.getElem?_append_right (by omega), ← h2]
        congr 1
        omega
  have hiG := ht.hi.remap rb
  have tG : Turned (Hid U0 rs H m) (maskI rs 0 H) m W G m2 w' := by
    refine ⟨hiG, ⟨ht.chg.os, ht.chg.tape, ht.chg.output, ht.chg.size, fun k hk hnm => ht.chg.block k hk fun hm => hnm (rm.mut k hm)⟩, fun b x L h1 h2 h3 k hk => ?_, fun k hk => ?_⟩
    · obtain ⟨y, fr, g1, g2, g3, -, -⟩ := rb.at_ b x h1 h2
      rcases ht.new _ y L g1 g2 (by rw [← g3]; exact h3) k hk with q | ⟨b', x', L', q1, q2, q3, q4⟩
      · exact .inl q
      · obtain ⟨z, fr', e1, e2, e3, -, -⟩ := rm.at_ b' x' q1 q2
        exact .inr ⟨_, z, L', e1, e2, by rw [← e3]; exact q3, q4⟩
    · rcases ht.mt k (rb.mut k hk) with q | q
      · exact .inl q
      · exact .inr (rm.mut k q)
  have hsG := rb.sees hs
  obtain ⟨tU, hUU⟩ := tG.unmask hi (H2 := (effX rs H.length H').app H) (by simp [Eff.app, effX, setAll_len, hGl]) (fun b x hb hlv => by
    by_cases hbl : b < H.length
    · have hb' : (setAll (rs.zip ((H'.take rs.length).map (Bx.ren (sigma rs H.length)))) H)[b]? = some x := by
        rw [← hb]
        unfold Eff.app effX
        rw [List.getElem?_append_left (by rw [setAll_len]; exact hbl)]
      cases hix : idx rs b with
      | none =>
        rw [setAll_other _ _ _ fun y hy e => ?_] at hb'
        · exact .inr ⟨hb', idx_none hix⟩
        · have := (List.of_mem_zip hy).1
          rw [e] at this
          have hc := idx_none hix
          simp at hc
          exact hc this
      | some i =>
        have hri := idx_some hix
        have hil := (List.getElem?_eq_some_iff.1 hri).1
        refine .inl ⟨?_, fun _ => by simpa using List.mem_of_getElem? hri⟩
        simp only [G]
        rw [List.getElem?_append_left (by rw [setAll_len, maskI_len]; exact hbl), setAll_zip rs _ _ i b hn hri (by simp; omega) (by rw [maskI_len]; exact hbl)]
        rwa [setAll_zip rs _ _ i b hn hri (by simp; omega) hbl] at hb'
    · refine .inl ⟨?_, fun h => absurd h hbl⟩
      unfold Eff.app effX at hb
      simp only [G]
      rw [List.getElem?_append_right (by rw [setAll_len]; omega), setAll_len] at hb
      rw [List.getElem?_append_right (by rw [setAll_len, maskI_len]; omega), setAll_len, maskI_len]
      exact hb) (fun b x hb hlv hbl => by
    obtain ⟨i, hri, -⟩ := hG1 b x hb hlv hbl
    simpa using List.mem_of_getElem? hri)
  exact ⟨tU, hsG.sub hUU⟩
theorem callF_ok (hΓ : COk P Γ) (hi : HI U0 H m W) {f : FuncId} {ds : List Da} {vs : Array Value} (hl : vs.size = ds.length) (hv : ∀ (i : Nat) (v : Value) (d : Da), vs[i]? = some v → ds[i]? = some d → Sees (Uof U0 H m) W m v d) (hs : (callF Γ H f ds).safe) :
    (∀ args w, (callFunc f args).run P w = .ok (.enter f args) w) ∧ Calls P f vs W fun e w' => ∃ v, e = .returned v ∧ Done U0 H m W (callF Γ H f ds).get.2 (callF Γ H f ds).get.1 v w' := by
  have hX : (callX Γ H f ds).safe → (∀ args w, (callFunc f args).run P w = .ok (.enter f args) w) ∧ Calls P f vs W fun e w' => ∃ v, e = .returned v ∧ Done U0 H m W (callX Γ H f ds).get.2 (callX Γ H f ds).get.1 v w' := by
    intro hs
    unfold callX at hs ⊢
    simp only [CheckFast.force_eq] at hs ⊢
    generalize hrs : reachG H 200 (Da.idsL ds) [] = rs at *
    have hn : rs.Nodup := by rw [← hrs]; exact reachG_nodup H _ _ _ List.nodup_nil
    split at hs <;> try exact hs.elim
    rename_i q H' r hlk
    split at hs <;> try exact hs.elim
    rename_i hc
    simp only [Bool.and_eq_true, decide_eq_true_eq, List.all_eq_true] at hc
    have hcc : (decide (rs.length ≤ H'.length) && rs.all fun b => decide (b < H.length)) = true := by
      simp only [Bool.and_eq_true, decide_eq_true_eq, List.all_eq_true]; exact hc
    simp only [hlk, hcc, if_true]
    have key : q.holds → (∀ args w, (callFunc f args).run P w = .ok (.enter f args) w) ∧ Calls P f vs W fun e w' => ∃ v, e = .returned v ∧ Done U0 H m W (effX rs H.length H') (r.ren (sigma rs H.length)) v w' := fun hq => by
      obtain ⟨g1, g2⟩ := lookX_ok hΓ.x hlk hq
      exact ⟨g1, own_ok hi hl hv hn hc.1 hc.2 g2⟩
    cases q with
    | yes => exact key trivial
    | when q =>
      have hq : q = true := by
        cases q
        · exact (hs.2 rfl).elim
        · rfl
      subst hq
      exact key rfl
  revert hs
  unfold callF
  split
  · rename_i es fz hsh
    split
    · rename_i r hlk
      intro _
      obtain ⟨g1, g2⟩ := look_ok hΓ.c hlk trivial
      exact ⟨g1, closed_ok hi hl hv hsh g2⟩
    · rename_i q r hlk
      intro hs
      have hq : q = true := by
        cases q
        · exact (hs.2 rfl).elim
        · rfl
      subst hq
      obtain ⟨g1, g2⟩ := look_ok hΓ.c hlk rfl
      exact ⟨g1, closed_ok hi hl hv hsh g2⟩
    · exact hX
  · exact hX
end
end Go.Proofs.YthlebalbiokjpaaGreat
namespace Go.Proofs.YthlebalbiokjpaaGreat
open Go.RowKit
set_option linter.unusedVariables false
set_option linter.unusedSimpArgs false
section
variable {P : Program} {Γ : Ctx} {U : Ex} {H H1 : List Bx} {U0 R : Ex} {m : List Loc} {a : Act} {W W' : World}
/-- Cells of a slice of ours cleared. -/
theorem clrT_ok (hi : HI U0 H m W) {t ty : TypeId} {v : Value} {d : Da} (hv : Sees (Uof U0 H m) W m v d) (hs : (clrT P Γ H t d).safe) :
    ∃ W', (Builtin.clear_ #[t] ty #[v]).run P W = .ok (.tuple #[]) W' ∧ Done U0 H m W (clrT P Γ H t d).get.2 (clrT P Γ H t d).get.1 (.tuple #[]) W' := by
  revert hs
  unfold clrT
  split
  · rename_i q k' b lo n hq
    split
    · rename_i ty' k2 l dp hb
      split
      · rename_i he
        intro _
        obtain ⟨e1, e2, e3⟩ := he
        subst e1 e2 e3
        obtain ⟨L, A, c, rfl, g1, g2, g3, g4, g5⟩ := hv.sl_inv
        obtain ⟨k1, k2, k3, k4, k5, k6⟩ := kindT_ok hq
        obtain ⟨b1, b2, b3, b4⟩ := hi.bx b _ L hb g1
        have hz := zOkL_get k5
        have hzs : q.z.cells.size = wid q.k := by
          have := hz.1
          rw [row_wid] at this
          simpa using this.symm
        have hll : (l.take lo ++ List.replicate n (elDef q.k) ++ l.drop (lo + n)).length = l.length := by simp; omega
        have htl : (l.take lo).length = lo := by simp; omega
        have hw0 := wid_pos q.k
        by_cases hn : n = 0
        · subst hn
          refine ⟨W, by cases A <;> simp [Builtin.clear_, run_underlying k1], [], ?_, .v _ _⟩
          show Turned U0 H m W ((⟨[(b, _)], []⟩ : Eff).app H) [] W
          have e6 : l.take lo ++ List.replicate 0 (elDef q.k) ++ l.drop (lo + 0) = l := by simp
          rw [app_set, e6]
          have ho2 : Olds H (H.set b (Bx.ls q.e q.k l)) := (Frz.refl H).olds.set hb rfl (fun _ => rfl)
          have st := step_old (R := fun _ => False) hi ho2 (Chg.refl _ W) (fun _ h => h.elim)
          refine st.turned hi fun p z K h1 h2 h3 => ?_
          rw [List.append_nil] at h3
          rw [List.getElem?_set] at h1
          split at h1
          · rename_i e
            subst e
            split at h1 <;> cases h1
            rw [g1] at h3
            cases h3
            exact ⟨b1, b2, b3, fun hon => by
              obtain ⟨cs, c1, c2, c3, -⟩ := b4 hon
              exact ⟨cs, c1, c2, fun i j x d h4 h5 => by obtain ⟨u, hu, hs⟩ := c3 i j x d h4 h5; exact ⟨u, hu, st.sees0 hs⟩, fun h => by cases h⟩⟩
          · obtain ⟨y, y1, y2, y3, y4⟩ := (Frz.refl H).kept.at_ p z h1 h2
            exact bx_kept hi st y1 y2 h3 y3 fun _ _ h => h
        · have hA := g5 (by omega)
          subst hA
          have hon := b3 (by omega)
          obtain ⟨cs, c1, c2, c3, -⟩ := b4 hon
          have hzl : (Builtin.zeroCells q.z.cells n).toList.length = n * wid q.k := by rw [Array.length_toList, zc_size, hzs]
          have hzget : ∀ i j, i < n → j < wid q.k → (Builtin.zeroCells q.z.cells n).toList[i * wid q.k + j]? = q.z.cells[j]? := fun i j h1 h2 => by
            have hlt := cell_lt h1 h2
            unfold Builtin.zeroCells
            rw [Array.getElem?_toList, Array.getElem?_map, Array.getElem?_range, if_pos (by rw [hzs]; exact hlt), Option.map_some, hzs, Nat.mul_comm, Nat.mul_add_mod, Nat.mod_eq_of_lt h2, getElem!_pos q.z.cells j (by omega)]
            exact (Array.getElem?_eq_getElem _).symm
          have hone : ∀ u ∈ (Builtin.zeroCells q.z.cells n).toList, u.oneCell' = true := fun u hu => by
            obtain ⟨p, hp, rfl⟩ := List.getElem_of_mem hu
            rw [hzl] at hp
            obtain ⟨r1, r2, r3⟩ := cell_split hw0 hp
            have := hzget _ _ r1 r2
            rw [r3, List.getElem?_eq_getElem (by rw [hzl]; exact hp)] at this
            obtain ⟨d, hd⟩ := row_some (k := q.k) (elDef q.k) r2
            obtain ⟨u, hu, hs⟩ := hz.2 _ d hd
            rw [Array.getElem?_toList, ← this] at hu
            cases hu
            exact (zOk_sees (U := fun _ => False) (W := W) (m := []) _ _ hs).one (row_one _ _ d (List.mem_of_getElem? hd))
          have hfit : lo * wid q.k + (Builtin.zeroCells q.z.cells n).toList.length ≤ cs.size := by
            rw [hzl, c2, ← Nat.add_mul]
            exact Nat.mul_le_mul_right _ (by omega)
          have hst := run_storeCells_at (P := P) L.blk (lo * wid q.k) q.e (Builtin.zeroCells q.z.cells n).toList 0 cs W c1 (by omega) hone
          simp only [Nat.add_zero] at hst
          have hzv : (zeroValue q.e).run P W = .ok q.z W := by simp [zeroValue, typeInfo, k2, k3]
          refine ⟨W.setRow L.blk (layC0 cs (lo * wid q.k) (Builtin.zeroCells q.z.cells n).toList), ?_, [], ?_, .v _ _⟩
          · obtain ⟨n', rfl⟩ : ∃ n', n = n' + 1 := ⟨n - 1, by omega⟩
            simp [Builtin.clear_, run_underlying k1, hzv, hst, layC0]
          · show Turned U0 H m W ((⟨[(b, _)], []⟩ : Eff).app H) [] _
            rw [app_set]
            refine (done_set hi (Frz.refl H) hb rfl rfl (fun y hy => by rw [hb] at hy; cases hy; rfl) g1 hon c1 (layC0 cs (lo * wid q.k) (Builtin.zeroCells q.z.cells n).toList) (Bx.ls q.e q.k (l.take lo ++ List.replicate n (elDef q.k) ++ l.drop (lo + n))) rfl fun {U' m'} tr tr0 tr1 hrow => ⟨by rw [hll]; exact b1, by rw [hll]; exact b2, fun _ => hon, fun _ => ⟨_, hrow, by rw [layC0_size hfit, c2], fun i j x d hi' hd => ?_, fun h => by cases h⟩⟩).1
            have hj := row_lt hd
            by_cases h1 : i < lo
            · rw [List.append_assoc, List.getElem?_append_left (by omega), List.getElem?_take, if_pos h1] at hi'
              obtain ⟨u, hu, hs⟩ := c3 i j x d hi' hd
              have := cell_lt h1 hj
              exact ⟨u, by rw [layC0_get hfit, if_pos this]; exact hu, tr0 _ _ hs⟩
            · have hle : lo * wid q.k ≤ i * wid q.k := Nat.mul_le_mul_right _ (by omega)
              by_cases h2 : i < lo + n
              · rw [List.append_assoc, List.getElem?_append_right (by omega), htl, List.getElem?_append_left (by simp; omega), List.getElem?_replicate, if_pos (by omega)] at hi'
                cases hi'
                obtain ⟨u, hu, hs⟩ := hz.2 j d hd
                refine ⟨u, ?_, zOk_sees _ _ hs⟩
                have hlt : (i - lo) * wid q.k + j < n * wid q.k := cell_lt (by omega) hj
                have e7 : i * wid q.k + j - lo * wid q.k = (i - lo) * wid q.k + j := by rw [Nat.sub_mul]; omega
                rw [layC0_get hfit, if_neg (by omega), if_pos (by rw [hzl]; omega), e7, hzget _ _ (by omega) hj]
                rwa [Array.getElem?_toList] at hu
              · rw [List.getElem?_append_right (by simp; omega), List.getElem?_drop] at hi'
                have e8 : lo + n + (i - (l.take lo ++ List.replicate n (elDef q.k)).length) = i := by simp; omega
                rw [e8] at hi'
                obtain ⟨u, hu, hs⟩ := c3 i j x d hi' hd
                have hle2 : (lo + n) * wid q.k ≤ i * wid q.k := Nat.mul_le_mul_right _ (by omega)
                rw [Nat.add_mul] at hle2
                exact ⟨u, by rw [layC0_get hfit, if_neg (by omega), if_neg (by rw [hzl]; omega)]; exact hu, tr0 _ _ hs⟩
      · intro hs; exact hs.elim
    · intro hs; exact hs.elim
  · intro hs; exact hs.elim
/-- EVERY OPERATION. -/
theorem opT_gives (hΓ : COk P Γ) (hi : HI U0 H m W) (ev : Operand → Da) (o : Oper) (hev : ∀ x ∈ o.op.operands, Sees (Uof U0 H m) W m (a.eval x) (ev x)) (hs : (opT P Γ ev H o).safe) :
    gives P o a W (Done U0 H m W (opT P Γ ev H o).get.2 (opT P Γ ev H o).get.1) := by
  revert hs
  unfold opT
  split
  · rename_i t ho
    intro hs
    cases hti : P.info? t with
    | none => rw [hti] at hs; exact hs.elim
    | some i =>
      simp only [hti] at hs ⊢
      cases hz : i.zero with
      | none => simp only [hz] at hs; exact hs.elim
      | some z =>
        simp only [hz, Tree.get] at hs ⊢
        refine done_gives ?_ (done_cells hi t z.cells (z.cells.toList.map .v) (by simp) fun j v d hv hd => by
          rw [List.getElem?_map, Array.getElem?_toList, hv] at hd
          cases hd
          exact .v _ _)
        unfold execOp
        simp [ho, Instr.alloc, zeroValue, typeInfo, hti, hz, newVar, newRow]
  · rename_i t x ho
    intro hs
    have hx := hev x (by rw [ho]; simp [Op.operands])
    cases hc : (ev x).cells with
    | none => simp only [hc] at hs; exact hs.elim
    | some ds =>
      simp only [hc, Tree.get] at hs ⊢
      obtain ⟨h1, h2, -⟩ := cells_sees hx hc
      refine done_gives ?_ (done_cells hi t (a.eval x).cells ds h1 h2)
      unfold execOp
      simp [ho, Instr.box, newVar, newRow]
  · rename_i t x y ho
    intro hs
    have hx := hev x (by rw [ho]; simp [Op.operands])
    have hy := hev y (by rw [ho]; simp [Op.operands])
    have skip : ∀ {W' : World} {e : Eff}, (Instr.storeAt t (a.eval x) (a.eval y)).run P W = .ok () W' → Turned U0 H m W (e.app H) [] W' → gives P o a W (Done U0 H m W e (.v (.tuple #[]))) := fun hr ht => by
      unfold gives execOp
      simp only [ho, Sem.run_bind, hr, Result.andThen_ok, Sem.run_pure]
      exact ⟨[], ht, .v _ _⟩
    split at hs <;> try exact hs.elim
    · rename_i b off he
      rw [he] at hx
      obtain ⟨L, hxv, hk⟩ := hx.box_inv
      try simp only [he]
      split at hs <;> try exact hs.elim
      rename_i ty cs dp i ds hb hti hds
      split at hs <;> try exact hs.elim
      rename_i hall
      try simp only [hb, hti, hds, hall, if_true, Tree.get]
      simp only [Bool.and_eq_true, beq_iff_eq, decide_eq_true_eq] at hall
      obtain ⟨W', h1, h2⟩ := store_box hi hb hk hy hti hds hall.1.1 hall.1.2 hall.2
      exact skip (by rw [hxv]; exact h1) (by rw [app_set]; exact h2)
    · rename_i k b j off he
      rw [he] at hx
      obtain ⟨L, hxv, hk, hj⟩ := hx.elt_inv
      try simp only [he]
      split at hs <;> try exact hs.elim
      rename_i ty k2 l dp i ds fz hb hti hds
      split at hs <;> try exact hs.elim
      rename_i e
      subst e
      split at hs <;> try exact hs.elim
      rename_i hall
      split at hs <;> try exact hs.elim
      rename_i x' hx'
      obtain ⟨es, hes, hcl⟩ := Option.bind_eq_some_iff.1 hds
      try simp only [hb, hti, hds, dif_pos, hall, if_true, hx', Tree.get]
      simp only [Bool.and_eq_true, beq_iff_eq, decide_eq_true_eq, Bool.not_eq_true'] at hall
      obtain ⟨W', h1, h2⟩ := store_elt hi hb hk hj hy hti hes hcl hall.1.1 hall.1.2 hall.2 hx'
      refine skip (by rw [hxv]; exact h1) ?_
      have : (⟨frzE H fz ++ [(b, ⟨ty, .list k2 (l.set j x'), false, false⟩)], []⟩ : Eff).app H = (setAll (frzE H fz) H).set b ⟨ty, .list k2 (l.set j x'), false, false⟩ := by simp [Eff.app, setAll_snoc]
      rw [this]; exact h2
  · rename_i t n ps ho
    intro hs
    obtain ⟨u, W', h1, h2⟩ := bldT_ok (a := a) hi (ev := ev) (fun p hp => hev p.2 (by rw [ho]; simp only [Op.operands]; rw [← Array.mem_toList_iff]; exact List.mem_map.2 ⟨p, hp, rfl⟩)) hs
    refine done_gives ?_ h2
    unfold execOp
    simp only [ho]
    exact run_v h1
  · rename_i t x y ho
    intro hs
    obtain ⟨u, W', h1, h2⟩ := makT_ok hi (hev x (by rw [ho]; simp [Op.operands])) (hev y (by rw [ho]; simp [Op.operands])) hs
    refine done_gives ?_ h2
    unfold execOp
    simp only [ho]
    exact run_v h1
  · rename_i f xs ts ho
    intro hs
    have hf := hev f (by rw [ho]; simp [Op.operands, Call.operands])
    split at hs <;> try exact hs.elim
    rename_i g first caps he
    rw [he] at hf
    try simp only [he]
    generalize hfv : a.eval f = fv at hf
    cases hf
    rename_i fs cs h1 h2 h3 h4
    have hsees := sees_app (ws := cs.toList) (es := caps) (by simp [h1]) (sees_app (vs := fs.toList) (ds := first) (by simp [h1]) (fun i v d hv hd => h2 i v d (by simpa using hv) hd) (sees_args (a := a) (ev := ev) xs.toList fun x hx => hev x (by rw [ho]; simp only [Op.operands, Call.operands, Array.mem_append]; exact .inr (by simpa using hx)))) (fun i v d hv hd => h4 i v d (by simpa using hv) hd)
    obtain ⟨hgo, hcall⟩ := callF_ok hΓ hi (f := g) (vs := fs ++ xs.map a.eval ++ cs) (by simp [h1, h3]) (fun i v d hv hd => hsees i v d (by rw [← Array.getElem?_toList] at hv; simpa using hv) hd) hs
    unfold gives
    have hrun : (execOp a.eval o).run P W = .ok (.enter g (fs ++ xs.map a.eval ++ cs)) W := by
      unfold execOp
      simp only [ho, resolve, hfv, Deferred.ofValue, Sem.run_bind, Sem.run_pure, Result.andThen_ok, invoke, hgo]
    rw [hrun]
    exact hcall
  · rename_i xs ts ho
    intro hs
    split at hs <;> try exact hs.elim
    rename_i t tx x y hts hxs
    try simp only [hts, hxs]
    obtain ⟨u, W', h1, h2⟩ := appT_ok (ty := o.type) hi (hev x (by rw [ho]; simp only [Op.operands, Call.operands, Array.mem_append]; exact .inr (by rw [← Array.mem_toList_iff, hxs]; simp))) (hev y (by rw [ho]; simp only [Op.operands, Call.operands, Array.mem_append]; exact .inr (by rw [← Array.mem_toList_iff, hxs]; simp))) hs
    refine done_gives ?_ h2
    have e1 : xs = #[x, y] := by cases xs; simpa using hxs
    have e2 : ts = #[t, tx] := by cases ts; simpa using hts
    unfold execOp
    simp only [ho, resolve, e1, e2, Sem.run_bind, Sem.run_pure, Result.andThen_ok, invoke, builtin]
    simp [h1]
  · rename_i xs ts ho
    intro hs
    split at hs <;> try exact hs.elim
    rename_i t x hts hxs
    try simp only [hts, hxs]
    obtain ⟨W', h1, h2⟩ := clrT_ok (ty := o.type) hi (hev x (by rw [ho]; simp only [Op.operands, Call.operands, Array.mem_append]; exact .inr (by rw [← Array.mem_toList_iff, hxs]; simp))) hs
    refine done_gives ?_ h2
    have e1 : xs = #[x] := by cases xs; simpa using hxs
    have e2 : ts = #[t] := by cases ts; simpa using hts
    unfold execOp
    simp only [ho, resolve, e1, e2, Sem.run_bind, Sem.run_pure, Result.andThen_ok, invoke, builtin]
    simp [h1]
  · rename_i t ps ho
    intro hs
    obtain ⟨h1, -⟩ := Tree.safe_bind hs
    rw [Tree.get_bind hs]
    obtain ⟨v, h2, h3⟩ := bsT_run (a := a) t ps ev (fun p hp => hev p.2 (by rw [ho]; simp only [Op.operands]; rw [← Array.mem_toList_iff]; exact List.mem_map.2 ⟨p, hp, rfl⟩)) h1
    refine done_gives (v := v) (W' := W) ?_ (done_quiet hi h3)
    unfold execOp
    simp only [ho]
    exact run_v h2
  · intro hs
    obtain ⟨h1, -⟩ := Tree.safe_bind hs
    rw [Tree.get_bind hs]
    obtain ⟨v, h2, h3⟩ := valT_run hi ev o hev h1
    exact done_gives h2 (done_quiet hi h3)
end
end Go.Proofs.YthlebalbiokjpaaGreat
