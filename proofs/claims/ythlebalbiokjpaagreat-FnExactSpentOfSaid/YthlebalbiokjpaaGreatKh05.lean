/- The walk by reckoning is right: operations that only read. | The walk by reckoning is right: slices cut, values closed, all operations that only read. | The walk by reckoning is right: values closed, all operations that only read. -/
import Derived.Test.YthlebalbiokjpaaGreatKh04
namespace Go.Proofs.YthlebalbiokjpaaGreat
open Go.RowKit
set_option linter.unusedVariables false
set_option linter.unusedSimpArgs false
section
variable {P : Program} {Γ : Ctx} {U : Ex} {H : List Bx} {U0 : Ex} {m : List Loc} {a : Act} {W : World}
theorem sees_ofC (x : Value) : Sees U W m x (ofC x) := by
  cases x <;> first | exact .v _ _ | skip
  rename_i cs
  refine .agg _ _ _ (by simp) fun i v d hv hd => ?_
  simp only [List.getElem?_map, Option.map_eq_some_iff] at hd
  obtain ⟨e, he, rfl⟩ := hd
  rw [Array.getElem?_toList, hv] at he
  cases he
  exact .v _ _
theorem cells_at (h : HI U0 H m W) {b : Nat} {L : Loc} {ty : TypeId} {ds : List Da} {fr dp : Bool} (hb : H[b]? = some ⟨ty, .cells ds, fr, dp⟩) (hk : m[b]? = some L) (off : Nat) : ∀ (j : Nat) (d : Da), (ds.drop off)[j]? = some d → ∃ u, W.cell? ((⟨L.blk, off, none⟩ : Addr).add j) = some u ∧ Sees (Uof U0 H m) W m u d := by
  intro j d hj
  obtain ⟨h1, cs, h2, h3, h4⟩ := h.bx b _ L hb hk
  rw [List.getElem?_drop] at hj
  have hlt : off + j < ds.length := (List.getElem?_eq_some_iff.1 hj).1
  have hc : cs[off + j]? = some (cs[off + j]'(by omega)) := Array.getElem?_eq_getElem _
  refine ⟨_, ?_, h4 _ _ _ hc hj⟩
  rw [Addr.add_mid]
  unfold World.cell?
  simp only [h2, Option.isSome_none, Bool.false_eq_true, if_false]
  exact hc
theorem elt_at (h : HI U0 H m W) {b : Nat} {L : Loc} {ty : TypeId} {k : Kd} {l : List (El k)} {fr dp : Bool} (hb : H[b]? = some ⟨ty, .list k l, fr, dp⟩) (hk : m[b]? = some L) {i : Nat} (hi : i < L.len) (off : Nat) : ∀ (j : Nat) (d : Da), ((row k (l.getD i default)).drop off)[j]? = some d → ∃ u, W.cell? ((⟨L.blk, i * wid k + off, none⟩ : Addr).add j) = some u ∧ Sees (Uof U0 H m) W [] u d := by
  intro j d hj
  obtain ⟨h1, h2, h3, h4⟩ := h.bx b _ L hb hk
  obtain ⟨cs, g1, g2, g3, -⟩ := h4 (h3 (by omega))
  rw [List.getElem?_drop] at hj
  have hl : l[i]? = some (l.getD i default) := by rw [List.getD_eq_getElem?_getD, List.getElem?_eq_getElem (by omega)]; rfl
  obtain ⟨u, hu, hs⟩ := g3 i (off + j) _ d hl hj
  refine ⟨u, ?_, hs⟩
  rw [Addr.add_mid]
  unfold World.cell?
  simp only [g1, Option.isSome_none, Bool.false_eq_true, if_false]
  rw [Nat.add_assoc]; exact hu
theorem loadD_run (t : TypeId) (ds : List Da) (ad : Addr) (hc : ∀ (j : Nat) (d : Da), ds[j]? = some d → ∃ u, W.cell? (ad.add j) = some u ∧ Sees U W m u d) (hs : (loadD P t ds).safe) :
    ∃ v, (Instr.loadAt t (.pointer (some ad))).run P W = .ok v W ∧ Sees U W m v (loadD P t ds).get.1 := by
  unfold loadD at hs ⊢
  cases hu : P.underlying t with
  | none => simp [hu, Tree.safe] at hs
  | some q =>
    have one : ∀ (hq : ∀ fs, q ≠ .struct fs) (hq2 : ∀ n e, q ≠ .array n e), (match ds with | d :: _ => lf d | [] => Tree.bad).safe → ∃ v, (Instr.loadAt t (.pointer (some ad))).run P W = .ok v W ∧ Sees U W m v (match ds with | d :: _ => lf d | [] => Tree.bad).get.1 := by
      intro hq hq2 hs
      cases ds with
      | nil => exact hs.elim
      | cons d r =>
        obtain ⟨u, h1, h2⟩ := hc 0 d rfl
        have e0 : ad.add 0 = ad := by simp [Addr.add]
        rw [e0] at h1
        have hag : (isAgg t).run P W = .ok false W := by
          unfold isAgg
          rw [Sem.run_bind, run_underlying hu W]
          cases q <;> first | rfl | exact absurd rfl (hq _) | exact absurd rfl (hq2 _ _)
        exact ⟨u, by simp [Instr.loadAt, Instr.sureAddr, loadVar, Sem.run_bind, hag, h1], h2⟩
    cases q with
    | struct fs =>
      simp only [hu] at hs ⊢
      cases hi : P.info? t with
      | none => simp [hi, Tree.safe] at hs
      | some i =>
        simp only [hi] at hs ⊢
        by_cases hle : i.size ≤ ds.length
        · rw [if_pos hle]
          have hch : ∀ j : Nat, ∃ u, j < i.size → W.cell? (ad.add j) = some u ∧ ∀ d, ds[j]? = some d → Sees U W m u d := fun j => by
            by_cases hj : j < i.size
            · obtain ⟨u, h1, h2⟩ := hc j _ (List.getElem?_eq_getElem (by omega : j < ds.length))
              exact ⟨u, fun _ => ⟨h1, fun d hd => by rw [List.getElem?_eq_getElem (by omega)] at hd; cases hd; exact h2⟩⟩
            · exact ⟨undef, fun h => absurd h hj⟩
          obtain ⟨u, hu2⟩ := Classical.axiomOfChoice hch
          have hl := run_loadCells_list (P := P) W ad ((List.range i.size).map u) (fun j v hv => by
            rw [List.getElem?_map, Option.map_eq_some_iff] at hv
            obtain ⟨x, hx, rfl⟩ := hv
            obtain ⟨h1, h2⟩ := List.getElem?_eq_some_iff.1 hx
            simp at h1 h2
            subst h2
            exact (hu2 _ h1).1)
          have hag : (isAgg t).run P W = .ok true W := by
            unfold isAgg
            rw [Sem.run_bind, run_underlying hu W]
            rfl
          simp only [List.length_map, List.length_range] at hl
          refine ⟨.agg ((List.range i.size).map u).toArray, by simp [Instr.loadAt, Instr.sureAddr, loadVar, Sem.run_bind, hag, sizeOf, typeInfo, hi, hl], ?_⟩
          refine .agg _ _ _ (by simp; omega) fun j v d hv hd => ?_
          simp only [List.getElem?_toArray, List.getElem?_map, Option.map_eq_some_iff] at hv
          obtain ⟨x, hx, rfl⟩ := hv
          obtain ⟨h1, h2⟩ := List.getElem?_eq_some_iff.1 hx
          simp at h1 h2
          subst h2
          rw [List.getElem?_take, if_pos h1] at hd
          exact (hu2 _ h1).2 d hd
        · rw [if_neg hle] at hs; exact hs.elim
    | array n e => simp only [hu] at hs; exact hs.elim
    | _ => simp only [hu] at hs ⊢; exact one (fun _ h => by cases h) (fun _ _ h => by cases h) hs
theorem loadT_run (h : HI U0 H m W) (t : TypeId) (v : Value) (d : Da) (hv : Sees (Uof U0 H m) W m v d) (hs : (loadT P H t d).safe) :
    ∃ x, (Instr.loadAt t v).run P W = .ok x W ∧ Sees (Uof U0 H m) W m x (loadT P H t d).get.1 := by
  cases hv <;> try exact hs.elim
  case box b off L hk =>
    unfold loadT at hs ⊢
    try simp only at hs ⊢
    split at hs <;> try exact hs.elim
    rename_i ty ds fr dp hb
    try simp only [hb]
    exact loadD_run t _ _ (cells_at h hb hk off) hs
  case elt k b i off L hi hk =>
    unfold loadT at hs ⊢
    try simp only at hs ⊢
    split at hs <;> try exact hs.elim
    rename_i ty k' l fr dp hb
    split at hs <;> try exact hs.elim
    rename_i e
    subst e
    simp only [hb, dif_pos]
    exact loadD_run t _ _ (fun j d hj => by obtain ⟨u, h1, h2⟩ := elt_at h hb hk hi off j d hj; exact ⟨u, h1, h2.free⟩) hs
  case ref ad u ds h1 h2 =>
    exact loadD_run t ds ad (fun j d hj => ⟨u j, (h1 j d hj).2, (h2 j d hj).free⟩) hs
theorem fldAT_run (t : TypeId) (f : Nat) (v : Value) (d : Da) (hv : Sees U W m v d) (hs : (fldAT P t f d).safe) :
    ∃ x, (Instr.fieldAt t v f).run P W = .ok x W ∧ Sees U W m x (fldAT P t f d).get.1 := by
  unfold fldAT at hs ⊢
  cases hu : P.underlying t with
  | none => simp [hu, Tree.safe] at hs
  | some q =>
    cases q <;> try (simp only [hu] at hs; exact hs.elim)
    case struct fs =>
      simp only [hu] at hs ⊢
      cases hf : fs[f]? with
      | none => simp only [hf] at hs; exact hs.elim
      | some fd =>
        simp only [hf] at hs ⊢
        cases hi : P.info? fd.type with
        | none => simp only [hi] at hs; exact hs.elim
        | some i =>
          simp only [hi] at hs ⊢
          by_cases h0 : i.size = 0
          · rw [if_pos h0] at hs; exact hs.elim
          · rw [if_neg h0] at hs ⊢
            have hrun : ∀ ad : Addr, (Instr.fieldAt t (.pointer (some ad)) f).run P W = .ok (.pointer (some (ad.add fd.offset))) W := fun ad => by
              simp [Instr.fieldAt, run_underlying hu, hf, Instr.sureAddr, fieldPlace, sizeOf, typeInfo, hi, h0]
            cases hv <;> try exact hs.elim
            case box b off L hk => exact ⟨_, hrun _, by rw [Addr.add_mid]; exact .box _ b _ L hk⟩
            case elt k b j off L hj hk => exact ⟨_, hrun _, by rw [Addr.add_mid, Nat.add_assoc]; exact .elt _ k b j _ L hk hj⟩
            case ref ad u ds h1 h2 =>
              refine ⟨_, hrun _, .ref _ (ad.add fd.offset) (fun j => u (fd.offset + j)) _ (fun j d hj => ?_) (fun j d hj => ?_)⟩
              · rw [List.getElem?_take] at hj
                split at hj
                · rw [List.getElem?_drop] at hj
                  rw [addr_block, addr_add]
                  exact h1 _ _ hj
                · cases hj
              · rw [List.getElem?_take] at hj
                split at hj
                · rw [List.getElem?_drop] at hj
                  exact h2 _ _ hj
                · cases hj
theorem nilT_run (v : Value) (d : Da) (hv : Sees U W m v d) (hs : (nilT d).safe) : (∃ p, v = .pointer (some p)) ∧ Sees U W m v (nilT d).get.1 := by
  cases hv <;> try exact hs.elim
  case box b off L hk => exact ⟨⟨_, rfl⟩, .box _ b off L hk⟩
  case elt k b i off L hi hk => exact ⟨⟨_, rfl⟩, .elt _ k b i off L hk hi⟩
  case ref ad u ds h1 h2 => exact ⟨⟨_, rfl⟩, .ref _ ad u ds h1 h2⟩
  case opt =>
    rename_i c ds h2 h1
    cases c
    · exact (hs.2 rfl).elim
    · have := h1 rfl
      cases this with
      | ref _ ad u _ g1 g2 => exact ⟨⟨_, rfl⟩, .ref _ ad u ds g1 g2⟩
theorem part_run (t : TypeId) (ds : List Da) (vs : Array Value) (off : Nat) (hl : vs.size = ds.length) (hc : ∀ (i : Nat) (v : Value) (d : Da), vs[i]? = some v → ds[i]? = some d → Sees U W m v d) (hs : (loadD P t (ds.drop off)).safe) :
    ∃ x, (part t vs off).run P W = .ok x W ∧ Sees U W m x (loadD P t (ds.drop off)).get.1 := by
  unfold loadD at hs ⊢
  cases hu : P.underlying t with
  | none => simp [hu, Tree.safe] at hs
  | some q =>
    have one : ∀ (hq : ∀ fs, q ≠ .struct fs) (hq2 : ∀ n e, q ≠ .array n e), (match ds.drop off with | d :: _ => lf d | [] => Tree.bad).safe → ∃ v, (part t vs off).run P W = .ok v W ∧ Sees U W m v (match ds.drop off with | d :: _ => lf d | [] => Tree.bad).get.1 := by
      intro hq hq2 hs
      cases hd : ds.drop off with
      | nil => rw [hd] at hs; exact hs.elim
      | cons d r =>
        have hlt : off < ds.length := by
          have := congrArg List.length hd
          simp at this; omega
        have hd2 : ds[off]? = some d := by
          have := congrArg (fun l : List Da => l[0]?) hd
          simpa using this
        have hag : (isAgg t).run P W = .ok false W := by
          unfold isAgg
          rw [Sem.run_bind, run_underlying hu W]
          cases q <;> first | rfl | exact absurd rfl (hq _) | exact absurd rfl (hq2 _ _)
        have hv := Array.getElem?_eq_getElem (by omega : off < vs.size)
        exact ⟨_, by simp [part, Sem.run_bind, hag, hv], hc _ _ _ hv hd2⟩
    cases q with
    | struct fs =>
      simp only [hu] at hs ⊢
      cases hi : P.info? t with
      | none => simp [hi, Tree.safe] at hs
      | some i =>
        simp only [hi] at hs ⊢
        by_cases hle : i.size ≤ (ds.drop off).length
        · rw [if_pos hle]
          have hag : (isAgg t).run P W = .ok true W := by
            unfold isAgg
            rw [Sem.run_bind, run_underlying hu W]
            rfl
          refine ⟨.agg (vs.extract off (off + i.size)), by simp [part, Sem.run_bind, hag, sizeOf, typeInfo, hi], ?_⟩
          simp only [List.length_drop] at hle
          refine .agg _ _ _ (by simp; omega) fun j v d hv hd => ?_
          rw [List.getElem?_take, List.getElem?_drop] at hd
          split at hd <;> try cases hd
          rw [Array.getElem?_extract] at hv
          split at hv <;> try cases hv
          exact hc _ _ _ hv hd
        · rw [if_neg hle] at hs; exact hs.elim
    | array n e => simp only [hu] at hs; exact hs.elim
    | _ => simp only [hu] at hs ⊢; exact one (fun _ h => by cases h) (fun _ _ h => by cases h) hs
theorem fldT_run (t : TypeId) (f : Nat) (v : Value) (d : Da) (hv : Sees U W m v d) (hs : (fldT P t f d).safe) :
    ∃ x, (Instr.field t v f).run P W = .ok x W ∧ Sees U W m x (fldT P t f d).get.1 := by
  unfold fldT at hs ⊢
  cases hu : P.underlying t with
  | none => simp [hu, Tree.safe] at hs
  | some q =>
    cases q <;> try (simp only [hu] at hs; exact hs.elim)
    case struct fs =>
      simp only [hu] at hs ⊢
      cases hf : fs[f]? with
      | none => simp only [hf] at hs; exact hs.elim
      | some fd =>
        simp only [hf] at hs ⊢
        cases hv <;> try exact hs.elim
        case agg vs ds h1 h2 =>
          obtain ⟨x, hx, hx2⟩ := part_run fd.type ds vs fd.offset h1 h2 hs
          exact ⟨x, by simp [Instr.field, run_underlying hu, hf, asAgg, hx], hx2⟩
theorem exT_run (n : Nat) (v : Value) (d : Da) (hv : Sees U W m v d) (hs : (exT n d).safe) :
    ∃ x, (Instr.extract v n).run P W = .ok x W ∧ Sees U W m x (exT n d).get.1 := by
  unfold exT at hs ⊢
  cases hv <;> try exact hs.elim
  case tup vs ds h1 h2 =>
    simp only at hs ⊢
    cases hd : ds[n]? with
    | none => simp only [hd] at hs; exact hs.elim
    | some e =>
      simp only [hd] at hs ⊢
      have hlt := (List.getElem?_eq_some_iff.1 hd).1
      have hv := Array.getElem?_eq_getElem (by omega : n < vs.size)
      exact ⟨_, by simp [Instr.extract, hv], h2 _ _ _ hv hd⟩
theorem lst_ref {A : Option Addr} {k : Kd} {l : List (El k)} {u : Nat → Nat → Value} (h2 : ∀ (i j : Nat) (d : Da) (x : El k), l[i]? = some x → (row k x)[j]? = some d → ∃ ad, A = some ad ∧ ¬ U ad.block ∧ W.cell? (ad.add (i * wid k + j)) = some (u i j))
    (h3 : ∀ (i j : Nat) (d : Da) (x : El k), l[i]? = some x → (row k x)[j]? = some d → Sees U W [] (u i j) d) (i : Nat) (hi : i < l.length) : ∃ ad, A = some ad ∧ Sees U W m (.pointer (some (ad.add (i * wid k)))) (.ref (row k (l.getD i default))) := by
  have hx : l[i]? = some (l.getD i default) := by rw [List.getD_eq_getElem?_getD, List.getElem?_eq_getElem hi]; rfl
  have hw := wid_pos k
  have hr := row_wid k (l.getD i default)
  obtain ⟨ad, e, -, -⟩ := h2 i 0 _ _ hx (List.getElem?_eq_getElem (by omega))
  subst e
  refine ⟨ad, rfl, .ref _ _ (u i) _ (fun j d hj => ?_) (fun j d hj => h3 i j d _ hx hj)⟩
  obtain ⟨ad', e, h4, h5⟩ := h2 i j d _ hx hj
  cases e
  rw [addr_block, addr_add]
  exact ⟨h4, h5⟩
theorem ixAT_run (t : TypeId) (v w : Value) (d e : Da) (hv : Sees U W m v d) (hw : Sees U W m w e) (hs : (ixAT P t d e).safe) :
    ∃ x, (Instr.indexAt t v w).run P W = .ok x W ∧ Sees U W m x (ixAT P t d e).get.1 := by
  unfold ixAT at hs ⊢
  cases hu : P.underlying t with
  | none => simp [hu, Tree.safe] at hs
  | some q =>
    cases q <;> try (simp only [hu] at hs; exact hs.elim)
    case slice el =>
      simp only [hu] at hs ⊢
      cases hi : P.info? el with
      | none => simp only [hi] at hs; exact hs.elim
      | some ie =>
        simp only [hi] at hs ⊢
        cases hv <;> try exact hs.elim
        case lst A c k l u h1 h2 h3 =>
          cases hw <;> try exact hs.elim
          cases w <;> try exact hs.elim
          rename_i kk n
          simp only at hs ⊢
          by_cases hz : ie.size = wid k
          · rw [if_pos hz] at hs ⊢
            simp only [Tree.safe, decide_eq_true_eq, decide_eq_false_iff_not] at hs
            have hn : 0 ≤ n := Classical.byContradiction fun h => hs.2 h
            have hn2 : n < l.length := Classical.byContradiction fun h => (hs.1 hn).2 h
            have hg : (Tree.node (decide (0 ≤ n)) (.node (decide (n < l.length)) (lf (.ref (row k (l.getD n.toNat default)))) .bad) .bad : Vt).get = (.ref (row k (l.getD n.toNat default)), []) := by
              simp [Tree.get, lf, hn, hn2]
            rw [hg]
            obtain ⟨ad, rfl, hr⟩ := lst_ref (m := m) h2 h3 n.toNat (by omega)
            refine ⟨_, ?_, hr⟩
            have hsz : (sizeOf el).run P W = .ok (wid k) W := by simp [sizeOf, typeInfo, hi, hz]
            have htn : decide (l.length ≤ 1) = true ∨ True := .inr trivial
            simp [Instr.indexAt, run_underlying hu, asIntOf, hn, hn2, hsz]
          · rw [if_neg hz] at hs; exact hs.elim
        case sl k b lo q L A c h2 h3 h4 h5 h1 =>
          cases hw <;> try exact hs.elim
          cases w <;> try exact hs.elim
          rename_i kk n
          simp only at hs ⊢
          by_cases hz : ie.size = wid k
          · rw [if_pos hz] at hs ⊢
            simp only [Tree.safe, decide_eq_true_eq, decide_eq_false_iff_not] at hs
            have hn : 0 ≤ n := Classical.byContradiction fun h => hs.2 h
            have hn2 : n < q := Classical.byContradiction fun h => (hs.1 hn).2 h
            have hg : (Tree.node (decide (0 ≤ n)) (.node (decide (n < q)) (lf (.elt k b (lo + n.toNat) 0)) .bad) .bad : Vt).get = (.elt k b (lo + n.toNat) 0, []) := by
              simp [Tree.get, lf, hn, hn2]
            rw [hg]
            have hA := h5 (by omega)
            subst hA
            refine ⟨.pointer (some ⟨L.blk, (lo + n.toNat) * wid k + 0, none⟩), ?_, .elt _ k b _ 0 L h1 (by omega)⟩
            have hsz : (sizeOf el).run P W = .ok (wid k) W := by simp [sizeOf, typeInfo, hi, hz]
            simp [Instr.indexAt, run_underlying hu, asIntOf, hn, hn2, hsz, Addr.add_lit, Nat.add_mul]
          · rw [if_neg hz] at hs; exact hs.elim
theorem ixT_run (t : TypeId) (v w : Value) (d e : Da) (hv : Sees U W m v d) (hw : Sees U W m w e) (hs : (ixT P t d e).safe) :
    ∃ x, (Instr.index t v w).run P W = .ok x W ∧ Sees U W m x (ixT P t d e).get.1 := by
  unfold ixT at hs ⊢
  cases hu : P.underlying t with
  | none => simp [hu, Tree.safe] at hs
  | some q =>
    cases q <;> try (simp only [hu] at hs; exact hs.elim)
    case string =>
      cases hv <;> try (simp only [hu] at hs; exact hs.elim)
      cases v <;> try (simp only [hu] at hs; exact hs.elim)
      rename_i x
      cases hw <;> try (simp only [hu] at hs; exact hs.elim)
      cases w <;> try (simp only [hu] at hs; exact hs.elim)
      rename_i kk n
      simp only [hu] at hs ⊢
      simp only [Tree.safe, decide_eq_true_eq, decide_eq_false_iff_not] at hs
      have hn : 0 ≤ n := Classical.byContradiction fun h => hs.2 h
      have hn2 : n < x.size := Classical.byContradiction fun h => (hs.1 hn).2 h
      have hg : (Tree.node (decide (0 ≤ n)) (.node (decide (n < x.size)) (lf (.u8 (x.data.getD n.toNat 0))) .bad) .bad : Vt).get = (.u8 (x.data.getD n.toNat 0), []) := by
        simp [Tree.get, lf, hn, hn2]
      rw [hg]
      have hlt : n.toNat < x.size := by omega
      have e1 : x[n.toNat]? = some (x.data.getD n.toNat 0) := by
        rw [getElem?_pos x n.toNat hlt]
        have hlt2 : n.toNat < x.data.size := hlt
        simp [Array.getD, hlt2]
        rw [dif_pos hlt]
        rfl
      exact ⟨_, by simp [Instr.index, run_underlying hu, asIntOf, hn, e1], .u8 _ _⟩
theorem asB_eq {v : Value} {d : Da} {x : Bool} (hv : Sees U W m v d) (h : d.asB = some x) : v = .bool x := by
  cases hv <;> try (simp [Da.asB] at h; done)
  case v => cases v <;> simp [Da.asB] at h; subst h; rfl
  case b c => simp [Da.asB] at h; subst h; rfl
  case nb c => simp only [Da.asB, Option.some.injEq] at h; rw [← h]
theorem unT_run (op : UnOp) (v : Value) (d : Da) (hv : Sees U W m v d) (hs : (unT op d).safe) : ∃ x, (Op.unary op v).run P W = .ok x W ∧ Sees U W m x (unT op d).get.1 := by
  cases op <;> cases hv <;> try exact hs.elim
  all_goals try (cases v <;> try exact hs.elim)
  all_goals first
    | exact ⟨_, rfl, .v _ _⟩
    | exact ⟨_, rfl, .nb _ _⟩
    | (rename_i c; exact ⟨_, by simp [Op.unary], by rw [Bool.not_not]; exact .b _ c⟩)
    | (rename_i c; exact ⟨.bool c, by simp [Op.unary], .b _ c⟩)
theorem intT_run (op : BinOp) (t : TypeId) (k : IntKind) (x y : Int) (h1 : op ≠ .shl) (h2 : op ≠ .shr) (hs : (intT op k x y).safe) : ∃ v, (binOp op t (.int k x) (.int k y)).run P W = .ok v W ∧ Sees U W m v (intT op k x y).get.1 := by
  cases op <;> try exact hs.elim
  case quo =>
    simp only [intT, Tree.safe, decide_eq_true_eq, decide_eq_false_iff_not] at hs
    have hy : ¬ y = 0 := fun h => hs.1 h
    exact ⟨_, by simp [binOp, Op.intDiv, hy]; rfl, by simp [intT, Tree.get, hy, lf]; exact .v _ _⟩
  case rem =>
    simp only [intT, Tree.safe, decide_eq_true_eq, decide_eq_false_iff_not] at hs
    have hy : ¬ y = 0 := fun h => hs.1 h
    exact ⟨_, by simp [binOp, Op.intDiv, hy]; rfl, by simp [intT, Tree.get, hy, lf]; exact .v _ _⟩
  case add => exact ⟨.int k (k.wrap (x + y)), by simp [binOp, Op.intArith], .v _ _⟩
  case sub => exact ⟨.int k (k.wrap (x - y)), by simp [binOp, Op.intArith], .v _ _⟩
  case mul => exact ⟨.int k (k.wrap (x * y)), by simp [binOp, Op.intArith], .v _ _⟩
  case and => exact ⟨.int k (bits .and k x y), by simp [binOp, intBits_and], .v _ _⟩
  case or => exact ⟨.int k (bits .or k x y), by simp [binOp, intBits_or], .v _ _⟩
  case xor => exact ⟨.int k (bits .xor k x y), by simp [binOp, intBits_xor], .v _ _⟩
  case eql => exact ⟨.bool (x == y), by simp [binOp, Op.intCmp], .b _ _⟩
  case neq => exact ⟨.bool !(x == y), by simp [binOp, Op.intCmp, bne], .nb _ _⟩
  case lss => exact ⟨.bool (decide (x < y)), by simp [binOp, Op.intCmp], .b _ _⟩
  case leq => exact ⟨.bool (decide (x ≤ y)), by simp [binOp, Op.intCmp], .b _ _⟩
  case gtr => exact ⟨.bool (decide (x > y)), by simp [binOp, Op.intCmp], .b _ _⟩
  case geq => exact ⟨.bool (decide (x ≥ y)), by simp [binOp, Op.intCmp], .b _ _⟩
theorem shT_run (op : BinOp) (t : TypeId) (k k' : IntKind) (x y : Int) (hs : (shT op k x y).safe) : ∃ v, (binOp op t (.int k x) (.int k' y)).run P W = .ok v W ∧ Sees U W m v (shT op k x y).get.1 := by
  cases op <;> try exact hs.elim
  all_goals
    simp only [shT, Tree.safe, decide_eq_true_eq, decide_eq_false_iff_not] at hs
    have hy : ¬ y < 0 := fun h => hs.1 h
    exact ⟨_, by simp [binOp, Op.shift, hy]; rfl, by simp [shT, Tree.get, hy, lf]; exact .v _ _⟩
theorem strT_run (op : BinOp) (t : TypeId) (x y : ByteArray) (hs : (strT op x y).safe) : ∃ v, (binOp op t (.string x) (.string y)).run P W = .ok v W ∧ Sees U W m v (strT op x y).get.1 := by
  cases op <;> try exact hs.elim
  case add =>
    simp only [strT, Tree.safe, decide_eq_true_eq, decide_eq_false_iff_not] at hs
    have hy : ¬ ((x.size + y.size : Nat) : Int) > 9223372036854775807 := fun h => hs.1 h
    have hy2 : ¬ ((9223372036854775807 : Int) < (x.size : Int) + y.size) := by omega
    exact ⟨.string (x ++ y), by simp [binOp, Op.stringOp, IntKind.max, IntKind.signed, IntKind.bits, hy2], by simp only [strT, Tree.get, hy, decide_false, lf]; exact .v _ _⟩
  case neq => exact ⟨.bool !(x.toList == y.toList), by simp [binOp, Op.stringOp], .nb _ _⟩
  case gtr => exact ⟨_, rfl, .nb _ _⟩
  case geq => exact ⟨_, rfl, .nb _ _⟩
  all_goals exact ⟨_, rfl, .b _ _⟩
theorem run_eq_bool (op : BinOp) (t : TypeId) (x y : Bool) (hu : P.underlying t = some .bool) (hs : (eqB op x y).safe) : ∃ v, (binOp op t (.bool x) (.bool y)).run P W = .ok v W ∧ Sees U W m v (eqB op x y).get.1 := by
  have he : (Op.equal t (.bool x) (.bool y)).run P W = .ok (x == y) W := run_equal_bool W t x y hu
  cases op <;> try exact hs.elim
  case eql => exact ⟨.bool (x == y), by simp [binOp, he], .b _ _⟩
  case neq => exact ⟨.bool !(x == y), by simp [binOp, he], .nb _ _⟩
theorem nilP_eq {v : Value} {d : Da} {x : Bool} (hv : Sees U W m v d) (h : nilP d = some x) : ∃ p : Option Addr, v = .pointer p ∧ p.isNone = x := by
  cases hv <;> try (simp [nilP] at h; done)
  case v =>
    cases v <;> try (simp [nilP] at h; done)
    rename_i p
    cases p <;> simp [nilP] at h
    exact ⟨_, rfl, by simpa using h⟩
  case box => simp [nilP] at h; exact ⟨_, rfl, by simpa using h⟩
  case elt => simp [nilP] at h; exact ⟨_, rfl, by simpa using h⟩
  case ref => simp [nilP] at h; exact ⟨_, rfl, by simpa using h⟩
  case opt c ds h2 h1 =>
    simp only [nilP, Option.some.injEq] at h
    cases c
    · exact ⟨none, h2 rfl, h⟩
    · have := h1 rfl
      cases this with
      | ref _ ad u _ g1 g2 => exact ⟨_, rfl, h⟩
theorem run_eq_ptr (op : BinOp) (t e : TypeId) (p q : Option Addr) (hu : P.underlying t = some (.pointer e)) (hpq : (q.isNone || p.isNone) = true) (hs : (eqP op (q.isNone && p.isNone)).safe) : ∃ v, (binOp op t (.pointer p) (.pointer q)).run P W = .ok v W ∧ Sees U W m v (eqP op (q.isNone && p.isNone)).get.1 := by
  have he : ∀ n, (Op.equalIn (n + 1) t (.pointer p) (.pointer q)).run P W = .ok (q.isNone && p.isNone) W := fun n => by
    cases p <;> cases q <;> first | (simp at hpq; done) | simp [Op.equalIn, run_underlying hu]
  have he : (Op.equal t (.pointer p) (.pointer q)).run P W = .ok (q.isNone && p.isNone) W := he 9999
  cases op <;> try exact hs.elim
  case eql => exact ⟨.bool (q.isNone && p.isNone), by simp [binOp, he], .b _ _⟩
  case neq => exact ⟨.bool !(q.isNone && p.isNone), by simp [binOp, he], .nb _ _⟩
theorem sees_nrm {v : Value} {d : Da} (hv : Sees U W m v d) : Sees U W m v d.nrm := by
  cases hv <;> first | exact .v _ _ | (simp only [Da.nrm]; constructor <;> assumption)
/-- Values at which == asks nothing ahead. -/
def plainV : Value → Bool
  | .nilIface => false
  | .agg _ => false
  | _ => true
theorem eqGuard_run (op : BinOp) (t : TypeId) (x y : Operand) (v w : Value) (h : plainV v = true) : (eqGuard op t x y v w).run P W = .ok () W := by
  unfold eqGuard
  cases op <;> first | rfl | (cases v <;> first | rfl | (simp [plainV] at h; done))
theorem binT_run (op : BinOp) (t : TypeId) (v w : Value) (d e : Da) (hv : Sees U W m v d) (hw : Sees U W m w e) (hs : (binT P op t d e).safe) : plainV v = true ∧ ∃ x, (binOp op t v w).run P W = .ok x W ∧ Sees U W m x (binT P op t d e).get.1 := by
  revert hs
  unfold binT
  replace hv := sees_nrm hv
  replace hw := sees_nrm hw
  generalize d.nrm = d at hv ⊢
  generalize e.nrm = e at hw ⊢
  split
  · cases hv; cases hw
    intro hs
    refine ⟨rfl, ?_⟩
    split at hs
    · simpa using shT_run .shl t _ _ _ _ hs
    · simpa using shT_run .shr t _ _ _ _ hs
    · rename_i h1 h2
      split at hs
      · rename_i hk
        subst hk
        have := intT_run (U := U) (m := m) (W := W) (P := P) op t _ _ _ (fun h => h1 h) (fun h => h2 h) hs
        cases op <;> first | exact absurd rfl h1 | exact absurd rfl h2 | (simp only [if_true]; exact this)
      · exact hs.elim
  · cases hv; cases hw
    intro hs
    exact ⟨rfl, strT_run op t _ _ hs⟩
  · intro hs
    split at hs
    · rename_i hu
      split at hs
      · rename_i x y hx hy
        have e1 := asB_eq hv hx
        have e2 := asB_eq hw hy
        subst e1 e2
        exact ⟨rfl, run_eq_bool op t x y hu hs⟩
      · exact hs.elim
    · rename_i el hu
      split at hs
      · rename_i x y hx hy
        obtain ⟨p, rfl, rfl⟩ := nilP_eq hv hx
        obtain ⟨q, rfl, rfl⟩ := nilP_eq hw hy
        cases hpq : (q.isNone || p.isNone) with
        | false => rw [hpq] at hs; exact (hs.2 rfl).elim
        | true => rw [hpq] at hs; exact ⟨rfl, run_eq_ptr op t el p q hu hpq (hs.1 rfl)⟩
      · exact hs.elim
    · exact hs.elim
theorem convT_run (x y : TypeId) (v : Value) (d : Da) (hv : Sees U W m v d) (hs : (convT P x y d).safe) : ∃ u, (convert x y v).run P W = .ok u W ∧ Sees U W m u (convT P x y d).get.1 := by
  revert hs
  unfold convT
  replace hv := sees_nrm hv
  generalize d.nrm = d at hv ⊢
  split
  · rename_i q kk n h1 h2
    cases hv
    intro _
    refine ⟨.int .u8 (IntKind.u8.wrap n), ?_, ?_⟩
    · simp only [convert, Sem.run_bind, run_underlying h1, run_underlying h2, Result.andThen_ok]
      cases q <;> rfl
    · have e : IntKind.u8.wrap n = ((b8 n).toNat : Int) := by
        unfold b8
        simp [IntKind.wrap, IntKind.bits, IntKind.signed]
        omega
      rw [e]
      exact .u8 _ _
  · rename_i q k kk n hne h1 h2
    cases hv
    intro _
    refine ⟨_, ?_, .v _ _⟩
    simp only [convert, Sem.run_bind, run_underlying h1, run_underlying h2, Result.andThen_ok]
    cases q <;> rfl
  · rename_i q x' h1 h2
    cases hv
    intro _
    refine ⟨_, ?_, .v _ _⟩
    simp only [convert, Sem.run_bind, run_underlying h1, run_underlying h2, Result.andThen_ok]
    cases q <;> rfl
  · intro hs; exact hs.elim
theorem lenT_run (t ty : TypeId) (v : Value) (d : Da) (hv : Sees U W m v d) (hs : (lenT P t d).safe) : ∃ u, (Builtin.len_ #[t] ty #[v]).run P W = .ok u W ∧ Sees U W m u (lenT P t d).get.1 := by
  revert hs
  unfold lenT
  split
  · rename_i x h1
    cases hv
    intro _
    exact ⟨_, by simp [Builtin.len_, run_underlying h1]; rfl, .v _ _⟩
  · rename_i e k l h1
    cases hv
    intro _
    exact ⟨_, by simp [Builtin.len_, run_underlying h1]; rfl, .v _ _⟩
  · rename_i e k b lo n h1
    cases hv
    intro _
    exact ⟨_, by simp [Builtin.len_, run_underlying h1]; rfl, .v _ _⟩
  · rename_i e h1
    cases hv
    intro _
    exact ⟨_, by simp [Builtin.len_, run_underlying h1]; rfl, .v _ _⟩
  · rename_i e h1
    cases hv
    intro _
    exact ⟨_, by simp [Builtin.len_, run_underlying h1]; rfl, .v _ _⟩
  · intro hs; exact hs.elim
end
end Go.Proofs.YthlebalbiokjpaaGreat
namespace Go.Proofs.YthlebalbiokjpaaGreat
open Go.RowKit
set_option linter.unusedVariables false
set_option linter.unusedSimpArgs false
section
variable {P : Program} {Γ : Ctx} {U : Ex} {H : List Bx} {U0 : Ex} {m : List Loc} {a : Act} {W : World}
/-- Bounds that are known. -/
structure Bd (U : Ex) (W : World) (m : List Loc) (v : Option Value) (d : Option Da) : Prop where
  some_ : ∀ e, d = some e → ∃ x, v = some x ∧ Sees U W m x e
  none_ : d = none → v = none
theorem Bd.int {U : Ex} {W : World} {m : List Loc} {v : Option Value} {k : IntKind} {n : Int} (h : Bd U W m v (some (.v (.int k n)))) : v = some (.int k n) := by
  obtain ⟨x, hx, hs⟩ := h.some_ _ rfl
  cases hs
  exact hx
theorem slT_run (t : TypeId) (v : Value) (d : Da) (lo hi mx : Option Value) (dlo dhi dmx : Option Da) (hv : Sees U W m v d) (hlo : Bd U W m lo dlo) (hhi : Bd U W m hi dhi) (hmx : Bd U W m mx dmx) (hs : (slT P t d dlo dhi dmx).safe) :
    ∃ x, (Instr.sliceAt t v lo hi mx).run P W = .ok x W ∧ Sees U W m x (slT P t d dlo dhi dmx).get.1 := by
  revert hs
  unfold slT
  split
  · rename_i x hu
    cases hv
    have h0 : ∀ lo hi mx, (Instr.sliceAt t (.string x) lo hi mx).run P W = (Instr.slice t (.string x) lo hi mx).run P W := fun _ _ _ => by simp [Instr.sliceAt, run_underlying hu]
    split
    · intro _
      rw [hlo.none_ rfl, hhi.none_ rfl, hmx.none_ rfl, h0]
      exact ⟨.string (x.extract 0 x.size), by simp [Instr.slice, run_underlying hu, Instr.sliceBounds], .v _ _⟩
    · rename_i k q
      intro hs
      rw [hlo.int, hhi.none_ rfl, hmx.none_ rfl, h0]
      simp only [Tree.safe, decide_eq_true_eq, decide_eq_false_iff_not] at hs
      have g1 : 0 ≤ q := Classical.byContradiction fun h => hs.2 h
      have g2 : q ≤ x.size := Classical.byContradiction fun h => (hs.1 g1).2 h
      exact ⟨.string (x.extract q.toNat x.size), by simp [Instr.slice, run_underlying hu, Instr.sliceBounds, Instr.sliceBound, asIntOf, g1, g2], by simp only [Tree.get, lf, g1, g2, decide_true]; exact .v _ _⟩
    · rename_i k q
      intro hs
      rw [hlo.none_ rfl, hhi.int, hmx.none_ rfl, h0]
      simp only [Tree.safe, decide_eq_true_eq, decide_eq_false_iff_not] at hs
      have g1 : 0 ≤ q := Classical.byContradiction fun h => hs.2 h
      have g2 : q ≤ x.size := Classical.byContradiction fun h => (hs.1 g1).2 h
      exact ⟨.string (x.extract 0 q.toNat), by simp [Instr.slice, run_underlying hu, Instr.sliceBounds, Instr.sliceBound, asIntOf, g1, g2], by simp only [Tree.get, lf, g1, g2, decide_true]; exact .v _ _⟩
    · rename_i k q k' q'
      intro hs
      rw [hlo.int, hhi.int, hmx.none_ rfl, h0]
      simp only [Tree.safe, decide_eq_true_eq, decide_eq_false_iff_not] at hs
      have g1 : 0 ≤ q := Classical.byContradiction fun h => hs.2 h
      have g2 : q ≤ q' := Classical.byContradiction fun h => (hs.1 g1).2 h
      have g3 : q' ≤ x.size := Classical.byContradiction fun h => ((hs.1 g1).1 g2).2 h
      have g4 : 0 ≤ q' := by omega
      have g5 : q ≤ max q' 0 := by omega
      exact ⟨.string (x.extract q.toNat q'.toNat), by simp [Instr.slice, run_underlying hu, Instr.sliceBounds, Instr.sliceBound, asIntOf, g1, g3, g4, g5], by simp only [Tree.get, lf, g1, g2, g3, decide_true]; exact .v _ _⟩
    · intro hs; exact hs.elim
  · rename_i e k l hu
    cases hi' : P.info? e with
    | none => intro hs; exact hs.elim
    | some ie =>
      simp only
      by_cases hz : ie.size = wid k
      · rw [if_pos hz]
        cases hv
        rename_i A c u h1 h2 h3
        have hsz : (sizeOf e).run P W = .ok (wid k) W := by simp [sizeOf, typeInfo, hi', hz]
        have h0 : ∀ lo hi mx, (Instr.sliceAt t (.slice A l.length c) lo hi mx).run P W = (Instr.slice t (.slice A l.length c) lo hi mx).run P W := fun _ _ _ => by simp [Instr.sliceAt, run_underlying hu]
        -- a part of the slice
        have part : ∀ (p n : Nat), p ≤ n → n ≤ l.length → Sees U W m (.slice (if c = p then A else A.map (·.add (p * wid k))) (n - p) (c - p)) (.lst k ((l.take n).drop p)) := by
          intro p n hp hn
          have hlen : n - p = ((l.take n).drop p).length := by simp; omega
          rw [hlen]
          refine .lst _ _ _ _ _ (fun i j => u (p + i) j) (by rw [← hlen]; omega) (fun i j d x hx hd => ?_) (fun i j d x hx hd => ?_)
          · rw [List.getElem?_drop, List.getElem?_take] at hx
            split at hx <;> try (cases hx; done)
            obtain ⟨ad, rfl, h4, h5⟩ := h2 (p + i) j d x hx hd
            rename_i hlt
            rw [if_neg (by omega)]
            refine ⟨ad.add (p * wid k), rfl, by rw [addr_block]; exact h4, ?_⟩
            rw [addr_add, ← h5, Nat.add_mul, Nat.add_assoc]
          · rw [List.getElem?_drop, List.getElem?_take] at hx
            split at hx <;> try (cases hx; done)
            exact h3 (p + i) j d x hx hd
        have zero : ∀ lo', (lo' = none ∨ ∃ kk, lo' = some (.int kk 0)) → ∀ kk kk', ∃ x, (Instr.slice t (.slice A l.length c) lo' (some (.int kk 0)) (some (.int kk' 0))).run P W = .ok x W ∧ Sees U W m x .emp := by
          rintro lo' (rfl | ⟨kk, rfl⟩) k1 k2
          · exact ⟨.slice A 0 0, by simp [Instr.slice, run_underlying hu, Instr.sliceBounds, Instr.sliceBound, asIntOf, hsz], .emp _ _⟩
          · exact ⟨.slice A 0 0, by simp [Instr.slice, run_underlying hu, Instr.sliceBounds, Instr.sliceBound, asIntOf, hsz], .emp _ _⟩
        split
        · intro _
          rw [hlo.none_ rfl, hhi.none_ rfl, hmx.none_ rfl, h0]
          refine ⟨.slice (if c = 0 then A else A.map (·.add (0 * wid k))) (l.length - 0) (c - 0), by simp [Instr.slice, run_underlying hu, Instr.sliceBounds, hsz], ?_⟩
          have := part 0 l.length (Nat.zero_le _) (Nat.le_refl _)
          simpa [Tree.get, lf] using this
        · rename_i kk q
          intro hs
          rw [hlo.int, hhi.none_ rfl, hmx.none_ rfl, h0]
          simp only [Tree.safe, decide_eq_true_eq, decide_eq_false_iff_not] at hs
          have g1 : 0 ≤ q := Classical.byContradiction fun h => hs.2 h
          have g2 : q ≤ l.length := Classical.byContradiction fun h => (hs.1 g1).2 h
          have := part q.toNat l.length (by omega) (Nat.le_refl _)
          rw [List.take_length] at this
          exact ⟨_, by simp [Instr.slice, run_underlying hu, Instr.sliceBounds, Instr.sliceBound, asIntOf, g1, g2, hsz]; rfl, by simpa only [Tree.get, lf, g1, g2, decide_true, cond_true] using this⟩
        · rename_i kk q
          intro hs
          rw [hlo.none_ rfl, hhi.int, hmx.none_ rfl, h0]
          simp only [Tree.safe, decide_eq_true_eq, decide_eq_false_iff_not] at hs
          have g1 : 0 ≤ q := Classical.byContradiction fun h => hs.2 h
          have g2 : q ≤ l.length := Classical.byContradiction fun h => (hs.1 g1).2 h
          have g3 : q ≤ c := by omega
          have := part 0 q.toNat (by omega) (by omega)
          rw [List.drop_zero] at this
          exact ⟨_, by simp [Instr.slice, run_underlying hu, Instr.sliceBounds, Instr.sliceBound, asIntOf, g1, g3, hsz]; rfl, by simpa [Tree.get, lf, g1, g2] using this⟩
        · rename_i kk q kk' q'
          intro hs
          rw [hlo.int, hhi.int, hmx.none_ rfl, h0]
          simp only [Tree.safe, decide_eq_true_eq, decide_eq_false_iff_not] at hs
          have g1 : 0 ≤ q := Classical.byContradiction fun h => hs.2 h
          have g2 : q ≤ q' := Classical.byContradiction fun h => (hs.1 g1).2 h
          have g3 : q' ≤ l.length := Classical.byContradiction fun h => ((hs.1 g1).1 g2).2 h
          have g4 : 0 ≤ q' := by omega
          have g5 : q ≤ max q' 0 := by omega
          have g6 : q' ≤ c := by omega
          have := part q.toNat q'.toNat (by omega) (by omega)
          exact ⟨_, by simp [Instr.slice, run_underlying hu, Instr.sliceBounds, Instr.sliceBound, asIntOf, g1, g4, g5, g6, hsz]; rfl, by simpa only [Tree.get, lf, g1, g2, g3, decide_true, cond_true] using this⟩
        · intro _
          rw [hlo.none_ rfl, hhi.int, hmx.int, h0]
          exact zero _ (.inl rfl) _ _
        · intro _
          rw [hlo.int, hhi.int, hmx.int, h0]
          exact zero _ (.inr ⟨_, rfl⟩) _ _
        · intro hs; exact hs.elim
      · rw [if_neg hz]; intro hs; exact hs.elim
  · rename_i e k b q0 n hu
    cases hi' : P.info? e with
    | none => intro hs; exact hs.elim
    | some ie =>
      simp only
      by_cases hz : ie.size = wid k
      · rw [if_pos hz]
        obtain ⟨L, A, c, rfl, h1, h2, h3, h4, h5⟩ := hv.sl_inv
        have hsz : (sizeOf e).run P W = .ok (wid k) W := by simp [sizeOf, typeInfo, hi', hz]
        have h0 : ∀ lo hi mx, (Instr.sliceAt t (.slice A n c) lo hi mx).run P W = (Instr.slice t (.slice A n c) lo hi mx).run P W := fun _ _ _ => by simp [Instr.sliceAt, run_underlying hu]
        have part : ∀ (p h : Nat), p ≤ h → h ≤ n → Sees U W m (.slice (if c = p then A else A.map (·.add (p * wid k))) (h - p) (c - p)) (.sl k b (q0 + p) (h - p)) := by
          intro p h hp hh
          refine .sl _ k b _ _ L _ _ h1 (by omega) (by omega) (by omega) (fun hc => ?_)
          rw [if_neg (by omega), h5 (by omega)]
          simp [Addr.add_lit, Nat.add_mul]
        have zero : ∀ lo', (lo' = none ∨ ∃ kk, lo' = some (.int kk 0)) → ∀ kk kk', ∃ x, (Instr.slice t (.slice A n c) lo' (some (.int kk 0)) (some (.int kk' 0))).run P W = .ok x W ∧ Sees U W m x .emp := by
          rintro lo' (rfl | ⟨kk, rfl⟩) k1 k2
          · exact ⟨.slice A 0 0, by simp [Instr.slice, run_underlying hu, Instr.sliceBounds, Instr.sliceBound, asIntOf, hsz], .emp _ _⟩
          · exact ⟨.slice A 0 0, by simp [Instr.slice, run_underlying hu, Instr.sliceBounds, Instr.sliceBound, asIntOf, hsz], .emp _ _⟩
        split
        · intro _
          rw [hlo.none_ rfl, hhi.none_ rfl, hmx.none_ rfl, h0]
          refine ⟨.slice (if c = 0 then A else A.map (·.add (0 * wid k))) (n - 0) (c - 0), by simp [Instr.slice, run_underlying hu, Instr.sliceBounds, hsz], ?_⟩
          have := part 0 n (Nat.zero_le _) (Nat.le_refl _)
          simpa [Tree.get, lf] using this
        · rename_i kk q
          intro hs
          rw [hlo.int, hhi.none_ rfl, hmx.none_ rfl, h0]
          simp only [Tree.safe, decide_eq_true_eq, decide_eq_false_iff_not] at hs
          have g1 : 0 ≤ q := Classical.byContradiction fun h => hs.2 h
          have g2 : q ≤ n := Classical.byContradiction fun h => (hs.1 g1).2 h
          have := part q.toNat n (by omega) (Nat.le_refl _)
          exact ⟨_, by simp [Instr.slice, run_underlying hu, Instr.sliceBounds, Instr.sliceBound, asIntOf, g1, g2, hsz]; rfl, by simpa only [Tree.get, lf, g1, g2, decide_true, cond_true] using this⟩
        · rename_i kk q
          intro hs
          rw [hlo.none_ rfl, hhi.int, hmx.none_ rfl, h0]
          simp only [Tree.safe, decide_eq_true_eq, decide_eq_false_iff_not] at hs
          have g1 : 0 ≤ q := Classical.byContradiction fun h => hs.2 h
          have g2 : q ≤ n := Classical.byContradiction fun h => (hs.1 g1).2 h
          have g3 : q ≤ c := by omega
          have := part 0 q.toNat (by omega) (by omega)
          exact ⟨_, by simp [Instr.slice, run_underlying hu, Instr.sliceBounds, Instr.sliceBound, asIntOf, g1, g3, hsz]; rfl, by simpa [Tree.get, lf, g1, g2] using this⟩
        · rename_i kk q kk' q'
          intro hs
          rw [hlo.int, hhi.int, hmx.none_ rfl, h0]
          simp only [Tree.safe, decide_eq_true_eq, decide_eq_false_iff_not] at hs
          have g1 : 0 ≤ q := Classical.byContradiction fun h => hs.2 h
          have g2 : q ≤ q' := Classical.byContradiction fun h => (hs.1 g1).2 h
          have g3 : q' ≤ n := Classical.byContradiction fun h => ((hs.1 g1).1 g2).2 h
          have g4 : 0 ≤ q' := by omega
          have g5 : q ≤ max q' 0 := by omega
          have g6 : q' ≤ c := by omega
          have := part q.toNat q'.toNat (by omega) (by omega)
          exact ⟨_, by simp [Instr.slice, run_underlying hu, Instr.sliceBounds, Instr.sliceBound, asIntOf, g1, g4, g5, g6, hsz]; rfl, by simpa only [Tree.get, lf, g1, g2, g3, decide_true, cond_true] using this⟩
        · intro _
          rw [hlo.none_ rfl, hhi.int, hmx.int, h0]
          exact zero _ (.inl rfl) _ _
        · intro _
          rw [hlo.int, hhi.int, hmx.int, h0]
          exact zero _ (.inr ⟨_, rfl⟩) _ _
        · intro hs; exact hs.elim
      · rw [if_neg hz]; intro hs; exact hs.elim
  · intro hs; exact hs.elim
end
end Go.Proofs.YthlebalbiokjpaaGreat
namespace Go.Proofs.YthlebalbiokjpaaGreat
open Go.RowKit
set_option linter.unusedVariables false
set_option linter.unusedSimpArgs false
section
variable {P : Program} {Γ : Ctx} {U : Ex} {H : List Bx} {U0 : Ex} {m : List Loc} {a : Act} {W : World}
/-- Where what was ours may be read from now on. -/
structure Off (U : Ex) (U0 : Ex) (H : List Bx) (m : List Loc) (fz : List Nat) : Prop where
  sub : ∀ k, U k → Uof U0 H m k
  off : ∀ (b : Nat) (x : Bx) (L : Loc), b ∈ fz → H[b]? = some x → x.live = true → m[b]? = some L → L.on = true → ¬ U L.blk
theorem Off.mono {fz fz' : List Nat} (h : Off U U0 H m fz) (hs : ∀ b ∈ fz', b ∈ fz) : Off U U0 H m fz' := ⟨h.sub, fun b x L hb => h.off b x L (hs b hb)⟩
theorem lst_of (h : HI U0 H m W) {b lo n : Nat} {L : Loc} {ty : TypeId} {k : Kd} {l : List (El k)} {fr dp : Bool} {A : Option Addr} {c : Nat} (hb : H[b]? = some ⟨ty, .list k l, fr, dp⟩) (hk : m[b]? = some L) (h2 : lo + n ≤ L.len) (h3 : n ≤ c) (h4 : lo + c = L.cap) (h5 : 0 < c → A = some ⟨L.blk, lo * wid k, none⟩) (hU : ∀ k, U k → Uof U0 H m k) (hoff : L.on = true → ¬ U L.blk) :
    Sees U W [] (.slice A n c) (.lst k ((l.drop lo).take n)) := by
  obtain ⟨g1, g2, g3, g4⟩ := h.bx b _ L hb hk
  have hlen : n = ((l.drop lo).take n).length := by simp; omega
  by_cases hc : 0 < c
  · have hA := h5 hc
    subst hA
    have hon := g3 (by omega)
    obtain ⟨cs, q1, q2, q3, -⟩ := g4 hon
    have hch : ∀ i j : Nat, ∃ u, ∀ e d, ((l.drop lo).take n)[i]? = some e → (row k e)[j]? = some d → cs[(lo + i) * wid k + j]? = some u ∧ Sees (Uof U0 H m) W [] u d := fun i j => by
      cases he : ((l.drop lo).take n)[i]? with
      | none => exact ⟨undef, fun e d h => by cases h⟩
      | some e => cases hd : (row k e)[j]? with
        | none => exact ⟨undef, fun e' d h h' => by cases h; rw [hd] at h'; cases h'⟩
        | some d =>
          rw [List.getElem?_take] at he
          split at he <;> try (cases he; done)
          rw [List.getElem?_drop] at he
          obtain ⟨u, hu, hs⟩ := q3 (lo + i) j e d he hd
          exact ⟨u, fun e' d' h h' => by cases h; rw [hd] at h'; cases h'; exact ⟨hu, hs⟩⟩
    obtain ⟨u, hu⟩ := Classical.axiomOfChoice fun p : Nat × Nat => hch p.1 p.2
    have hs := Sees.lst (U := U) (W := W) [] (some ⟨L.blk, lo * wid k, none⟩) c k ((l.drop lo).take n) (fun i j => u (i, j)) (by omega) (fun i j d x hi hd => ⟨_, rfl, hoff hon, ?_⟩) (fun i j d x hi hd => ((hu (i, j)) x d hi hd).2.sub hU)
    · rw [← hlen] at hs; exact hs
    · rw [Addr.add_mid]
      unfold World.cell?
      simp only [q1, Option.isSome_none, Bool.false_eq_true, if_false]
      have := ((hu (i, j)) x d hi hd).1
      rw [Nat.add_mul, Nat.add_assoc] at this
      exact this
  · have hn : n = 0 := by omega
    subst hn
    have hc0 : c = 0 := by omega
    subst hc0
    have hs := Sees.lst (U := U) (W := W) [] A 0 k [] (fun _ _ => undef) (Nat.le_refl _) (fun i j d x hi => by simp at hi) (fun i j d x hi => by simp at hi)
    simpa using hs
theorem closeS_sees (h : HI U0 H m W) {v : Value} {d e : Da} {fz : List Nat} (hv : Sees (Uof U0 H m) W m v d) (hs : closeS H d = some (e, fz)) (hU : Off U U0 H m fz) : Sees U W [] v e := by
  unfold closeS at hs
  split at hs
  · rename_i k b lo n
    obtain ⟨L, A, c, rfl, h1, h2, h3, h4, h5⟩ := hv.sl_inv
    split at hs <;> try (cases hs; done)
    rename_i ty k' l fr dp hb
    split at hs <;> try (cases hs; done)
    rename_i e
    subst e
    simp only [Option.some.injEq, Prod.mk.injEq] at hs
    obtain ⟨rfl, rfl⟩ := hs
    exact lst_of h hb h1 h2 h3 h4 h5 hU.sub (fun hon => hU.off b _ L (by simp) hb rfl h1 hon)
  · split at hs <;> try (cases hs; done)
    rename_i hsh
    simp only [Option.some.injEq, Prod.mk.injEq] at hs
    obtain ⟨rfl, rfl⟩ := hs
    exact (hv.shut hsh).sub hU.sub
theorem closeL_sees (h : HI U0 H m W) : ∀ (ds : List Da) (es : List Da) (fz : List Nat), closeL H ds = some (es, fz) → Off U U0 H m fz → es.length = ds.length ∧ ∀ (i : Nat) (e : Da), es[i]? = some e → ∃ d, ds[i]? = some d ∧ ∀ v, Sees (Uof U0 H m) W m v d → Sees U W [] v e
  | [], es, fz, hs, _ => by
    simp only [closeL, Option.some.injEq, Prod.mk.injEq] at hs
    obtain ⟨rfl, rfl⟩ := hs
    exact ⟨rfl, fun i e he => by simp at he⟩
  | d :: r, es, fz, hs, hU => by
    simp only [closeL] at hs
    split at hs <;> try (cases hs; done)
    rename_i e f es' fs h1 h2
    simp only [Option.some.injEq, Prod.mk.injEq] at hs
    obtain ⟨rfl, rfl⟩ := hs
    obtain ⟨g2, g3⟩ := closeL_sees h r es' fs h2 (hU.mono fun b hb => List.mem_append_right _ hb)
    refine ⟨by simp [g2], fun i e' he => ?_⟩
    cases i with
    | zero => simp at he; subst he; exact ⟨d, rfl, fun v hv => closeS_sees h hv h1 (hU.mono fun b hb => List.mem_append_left _ hb)⟩
    | succ i => obtain ⟨d', q1, q2⟩ := g3 i e' (by simpa using he); exact ⟨d', by simpa using q1, q2⟩
theorem ref_of (h : HI U0 H m W) {b off : Nat} {L : Loc} {ty : TypeId} {ds es : List Da} {fr dp : Bool} {fz : List Nat} (hb : H[b]? = some ⟨ty, .cells ds, fr, dp⟩) (hk : m[b]? = some L) (hc : closeL H ds = some (es, fz)) (hU : Off U U0 H m (b :: fz)) : Sees U W [] (.pointer (some ⟨L.blk, off, none⟩)) (.ref (es.drop off)) := by
  obtain ⟨g2, g3⟩ := closeL_sees (U := U) h ds es fz hc (hU.mono fun b hb => List.mem_cons_of_mem _ hb)
  have hon : L.on = true := (h.bx b _ L hb hk).1
  have hcl := cells_at h hb hk off
  have hch : ∀ j : Nat, ∃ u, ∀ e, (es.drop off)[j]? = some e → W.cell? ((⟨L.blk, off, none⟩ : Addr).add j) = some u ∧ Sees U W [] u e := fun j => by
    cases hj : (es.drop off)[j]? with
    | none => exact ⟨undef, fun d hd => by cases hd⟩
    | some e =>
      rw [List.getElem?_drop] at hj
      obtain ⟨d, hd, hd2⟩ := g3 _ _ hj
      obtain ⟨u, h1, h2⟩ := hcl j d (by rw [List.getElem?_drop]; exact hd)
      exact ⟨u, fun e' he => by cases he; exact ⟨h1, hd2 _ h2⟩⟩
  obtain ⟨u, hu⟩ := Classical.axiomOfChoice hch
  exact .ref _ _ u _ (fun j d hj => ⟨hU.off b _ L List.mem_cons_self hb rfl hk hon, (hu j d hj).1⟩) (fun j d hj => (hu j d hj).2)
theorem eref_of (h : HI U0 H m W) {b i off : Nat} {L : Loc} {ty : TypeId} {k : Kd} {l : List (El k)} {fr dp : Bool} (hb : H[b]? = some ⟨ty, .list k l, fr, dp⟩) (hk : m[b]? = some L) (hi : i < L.len) (hU : Off U U0 H m [b]) : Sees U W [] (.pointer (some ⟨L.blk, i * wid k + off, none⟩)) (.ref ((row k (l.getD i default)).drop off)) := by
  have hcl := elt_at h hb hk hi off
  obtain ⟨g1, g2, g3, g4⟩ := h.bx b _ L hb hk
  have hon : L.on = true := g3 (by omega)
  have hch : ∀ j : Nat, ∃ u, ∀ d, ((row k (l.getD i default)).drop off)[j]? = some d → W.cell? ((⟨L.blk, i * wid k + off, none⟩ : Addr).add j) = some u ∧ Sees U W [] u d := fun j => by
    cases hj : ((row k (l.getD i default)).drop off)[j]? with
    | none => exact ⟨undef, fun d hd => by cases hd⟩
    | some e => obtain ⟨u, h1, h2⟩ := hcl j e hj; exact ⟨u, fun d hd => by cases hd; exact ⟨h1, h2.sub hU.sub⟩⟩
  obtain ⟨u, hu⟩ := Classical.axiomOfChoice hch
  exact .ref _ _ u _ (fun j d hj => ⟨hU.off b _ L List.mem_cons_self hb rfl hk hon, (hu j d hj).1⟩) (fun j d hj => (hu j d hj).2)
mutual
/-- What is handed on is closed. -/
theorem shutA_sees (h : HI U0 H m W) : ∀ (d : Da) (v : Value) (e : Da) (fz : List Nat), Sees (Uof U0 H m) W m v d → shutA H d = some (e, fz) → Off U U0 H m fz → Sees U W [] v e
  | .box b off, v, e, fz, hv, hs, hU => by
    obtain ⟨L, rfl, hk⟩ := hv.box_inv
    simp only [shutA] at hs
    split at hs <;> try (cases hs; done)
    rename_i ty ds fr dp hb
    split at hs <;> try (cases hs; done)
    rename_i es fz' hc
    simp only [Option.some.injEq, Prod.mk.injEq] at hs
    obtain ⟨rfl, rfl⟩ := hs
    exact ref_of h hb hk hc hU
  | .elt k b i off, v, e, fz, hv, hs, hU => by
    obtain ⟨L, rfl, hk, hi⟩ := hv.elt_inv
    simp only [shutA] at hs
    split at hs <;> try (cases hs; done)
    rename_i ty k' l fr dp hb
    split at hs <;> try (cases hs; done)
    rename_i e
    subst e
    simp only [Option.some.injEq, Prod.mk.injEq] at hs
    obtain ⟨rfl, rfl⟩ := hs
    exact eref_of h hb hk hi hU
  | .agg ds, v, e, fz, hv, hs, hU => by
    simp only [shutA] at hs
    split at hs <;> try (cases hs; done)
    rename_i es fz' hc
    simp only [Option.some.injEq, Prod.mk.injEq] at hs
    obtain ⟨rfl, rfl⟩ := hs
    cases hv with
    | agg _ vs _ g1 g2 =>
      obtain ⟨q1, q2⟩ := shutAs_sees h ds vs.toList es fz' (by simpa using g1) (fun i v d a b => g2 i v d (by simpa using a) b) hc hU
      exact .agg _ _ _ (by rw [q1, g1]) fun i v d a b => q2 i v d (by simpa using a) b
  | .tup ds, v, e, fz, hv, hs, hU => by
    simp only [shutA] at hs
    split at hs <;> try (cases hs; done)
    rename_i es fz' hc
    simp only [Option.some.injEq, Prod.mk.injEq] at hs
    obtain ⟨rfl, rfl⟩ := hs
    cases hv with
    | tup _ vs _ g1 g2 =>
      obtain ⟨q1, q2⟩ := shutAs_sees h ds vs.toList es fz' (by simpa using g1) (fun i v d a b => g2 i v d (by simpa using a) b) hc hU
      exact .tup _ _ _ (by rw [q1, g1]) fun i v d a b => q2 i v d (by simpa using a) b
  | .clo fn ds cs, v, e, fz, hv, hs, hU => by
    simp only [shutA] at hs
    split at hs <;> try (cases hs; done)
    rename_i es fz' es' fz'' hc hc'
    simp only [Option.some.injEq, Prod.mk.injEq] at hs
    obtain ⟨rfl, rfl⟩ := hs
    cases hv with
    | clo _ _ vs ws _ _ g1 g2 g3 g4 =>
      obtain ⟨q1, q2⟩ := shutAs_sees h ds vs.toList es fz' (by simpa using g1) (fun i v d a b => g2 i v d (by simpa using a) b) hc (hU.mono fun b hb => List.mem_append_left _ hb)
      obtain ⟨q3, q4⟩ := shutAs_sees h cs ws.toList es' fz'' (by simpa using g3) (fun i v d a b => g4 i v d (by simpa using a) b) hc' (hU.mono fun b hb => List.mem_append_right _ hb)
      exact .clo _ _ _ _ _ _ (by rw [q1, g1]) (fun i v d a b => q2 i v d (by simpa using a) b) (by rw [q3, g3]) (fun i v d a b => q4 i v d (by simpa using a) b)
  | .v x, v, e, fz, hv, hs, hU => closeS_sees h hv (by simpa only [shutA] using hs) hU
  | .u8 x, v, e, fz, hv, hs, hU => closeS_sees h hv (by simpa only [shutA] using hs) hU
  | .b x, v, e, fz, hv, hs, hU => closeS_sees h hv (by simpa only [shutA] using hs) hU
  | .nb x, v, e, fz, hv, hs, hU => closeS_sees h hv (by simpa only [shutA] using hs) hU
  | .lst k l, v, e, fz, hv, hs, hU => closeS_sees h hv (by simpa only [shutA] using hs) hU
  | .ref ds, v, e, fz, hv, hs, hU => closeS_sees h hv (by simpa only [shutA] using hs) hU
  | .opt c ds, v, e, fz, hv, hs, hU => closeS_sees h hv (by simpa only [shutA] using hs) hU
  | .sl k b lo n, v, e, fz, hv, hs, hU => closeS_sees h hv (by simpa only [shutA] using hs) hU
  | .emp, v, e, fz, hv, hs, hU => closeS_sees h hv (by simpa only [shutA] using hs) hU
  | .any, v, e, fz, hv, hs, hU => closeS_sees h hv (by simpa only [shutA] using hs) hU
theorem shutAs_sees (h : HI U0 H m W) : ∀ (ds : List Da) (vs : List Value) (es : List Da) (fz : List Nat), vs.length = ds.length → (∀ (i : Nat) (v : Value) (d : Da), vs[i]? = some v → ds[i]? = some d → Sees (Uof U0 H m) W m v d) → shutAs H ds = some (es, fz) → Off U U0 H m fz →
    es.length = ds.length ∧ ∀ (i : Nat) (v : Value) (d : Da), vs[i]? = some v → es[i]? = some d → Sees U W [] v d
  | [], vs, es, fz, hl, _, hs, _ => by
    simp only [shutAs, Option.some.injEq, Prod.mk.injEq] at hs
    obtain ⟨rfl, rfl⟩ := hs
    exact ⟨rfl, fun i v d _ hd => by simp at hd⟩
  | d :: r, [], es, fz, hl, _, _, _ => by simp at hl
  | d :: r, v :: vs, es, fz, hl, hv, hs, hU => by
    simp only [shutAs] at hs
    split at hs <;> try (cases hs; done)
    rename_i e f es' fs h1 h2
    simp only [Option.some.injEq, Prod.mk.injEq] at hs
    obtain ⟨rfl, rfl⟩ := hs
    have g1 := shutA_sees h d v e f (hv 0 v d rfl rfl) h1 (hU.mono fun b hb => List.mem_append_left _ hb)
    obtain ⟨g2, g3⟩ := shutAs_sees h r vs es' fs (by simpa using hl) (fun i v d a b => hv (i + 1) v d (by simpa using a) (by simpa using b)) h2 (hU.mono fun b hb => List.mem_append_right _ hb)
    refine ⟨by simp [g2], fun i v' d' a b => ?_⟩
    cases i with
    | zero => simp at a b; subst a b; exact g1
    | succ i => exact g3 i v' d' (by simpa using a) (by simpa using b)
end
/-- What is frozen is read from now on. -/
theorem off_frz (h : HI U0 H m W) (fz : List Nat) : Off (Uof U0 (setAll (frzE H fz) H) m) U0 H m fz := by
  have hf := frz_frzE H fz
  refine ⟨hf.uof, fun b x L hb hx hl hk hon => ?_⟩
  rintro (g | ⟨c, y, L', g1, g2, g3, g4, g5, g6⟩)
  · exact (h.lt b x L hx hl hk L.blk (mem_foot hon)).2 g
  · obtain ⟨z, q1, q2, q3, q4⟩ := hf.live g1
    have := h.dj b c x z L L' hx hl hk q1 (by rw [← q2]; exact g2) g4 L.blk (mem_foot hon) (by rw [← g6]; exact mem_foot g5)
    subst this
    have := frzE_mem fz H b (fun y hy => .inl hb) y (by rw [hx]; rfl) g1
    rw [g3] at this; cases this
/-- Hidden from the callee, while it reads. -/
theorem off_hid (h : HI U0 H m W) (fz : List Nat) : Off (fun k => Uof U0 H m k ∧ ∀ (b : Nat) (x : Bx) (L : Loc), b ∈ fz → H[b]? = some x → x.live = true → m[b]? = some L → L.on = true → L.blk ≠ k) U0 H m fz :=
  ⟨fun k hk => hk.1, fun b x L hb hx hl hk hon hu => hu.2 b x L hb hx hl hk hon rfl⟩
theorem HI.ult (h : HI U0 H m W) : ∀ k, Uof U0 H m k → k < W.heap.size := by
  rintro k (g | ⟨b, x, L, h1, h2, h3, h4, h5, h6⟩)
  · exact h.ul k g
  · exact (h.lt b x L h1 h2 h4 k (by rw [← h6]; exact mem_foot h5)).1
/-- A call's operands. -/
theorem sees_args {ev : Operand → Da} (xs : List Operand) (h : ∀ x ∈ xs, Sees U W m (a.eval x) (ev x)) : ∀ (i : Nat) (v : Value) (d : Da), (xs.map a.eval)[i]? = some v → (xs.map ev)[i]? = some d → Sees U W m v d := by
  intro i v d hv hd
  rw [List.getElem?_map, Option.map_eq_some_iff] at hv hd
  obtain ⟨x, hx, rfl⟩ := hv
  obtain ⟨y, hy, rfl⟩ := hd
  rw [hx] at hy
  cases hy
  exact h x (List.mem_of_getElem? hx)
theorem sees_app {vs ws : List Value} {ds es : List Da} (hl : vs.length = ds.length) (h1 : ∀ (i : Nat) (v : Value) (d : Da), vs[i]? = some v → ds[i]? = some d → Sees U W m v d) (h2 : ∀ (i : Nat) (v : Value) (d : Da), ws[i]? = some v → es[i]? = some d → Sees U W m v d) :
    ∀ (i : Nat) (v : Value) (d : Da), (vs ++ ws)[i]? = some v → (ds ++ es)[i]? = some d → Sees U W m v d := by
  intro i v d hv hd
  by_cases hi : i < vs.length
  · rw [List.getElem?_append_left hi] at hv
    rw [List.getElem?_append_left (by omega)] at hd
    exact h1 i v d hv hd
  · rw [List.getElem?_append_right (by omega)] at hv hd
    rw [← hl] at hd
    exact h2 _ v d hv hd
theorem run_v {S : Sem Value} {x : Value} {w w' : World} (h : S.run P w = .ok x w') : (do pure (Next.value (← S)) : Sem Next).run P w = .ok (.value x) w' := by simp [h]
theorem bd_map {ev : Operand → Da} (x : Option Operand) (h : ∀ y, x = some y → Sees U W m (a.eval y) (ev y)) : Bd U W m (x.map a.eval) (x.map ev) := by
  cases x with
  | none => exact ⟨fun e he => (by cases he), fun _ => rfl⟩
  | some y => exact ⟨fun e he => (by simp at he; subst he; exact ⟨_, rfl, h y rfl⟩), fun he => (by cases he)⟩
/-- All operations that only read. -/
theorem valT_run (h : HI U0 H m W) (ev : Operand → Da) (o : Oper) (hev : ∀ x ∈ o.op.operands, Sees (Uof U0 H m) W m (a.eval x) (ev x)) (hs : (valT P ev H o).safe) :
    ∃ v, (execOp a.eval o).run P W = .ok (.value v) W ∧ Sees (Uof U0 H m) W m v (valT P ev H o).get.1 := by
  have val : ∀ {S : Sem Value} {d : Da}, (execOp a.eval o = do pure (Next.value (← S))) → (∃ x, S.run P W = .ok x W ∧ Sees (Uof U0 H m) W m x d) → ∃ v, (execOp a.eval o).run P W = .ok (.value v) W ∧ Sees (Uof U0 H m) W m v d := by
    rintro S d he ⟨x, h1, h2⟩
    exact ⟨x, by rw [he]; exact run_v h1, h2⟩
  revert hs
  unfold valT
  split <;> intro hs <;> try exact hs.elim
  case h_1 x ho =>
    exact ⟨a.eval x, by unfold execOp; simp [ho], hev x (by rw [ho]; simp [Op.operands])⟩
  case h_2 x ho =>
    exact ⟨a.eval x, by unfold execOp; simp [ho], hev x (by rw [ho]; simp [Op.operands])⟩
  case h_3 c x y ho =>
    have hc := hev c (by rw [ho]; simp [Op.operands])
    have hx := hev x (by rw [ho]; simp [Op.operands])
    have hy := hev y (by rw [ho]; simp [Op.operands])
    unfold br at hs ⊢
    have fin : ∀ b, a.eval c = .bool b → ∃ v, (execOp a.eval o).run P W = .ok (.value v) W ∧ Sees (Uof U0 H m) W m v (bif b then ev x else ev y) := fun b hb => by
      refine ⟨if b = true then a.eval x else a.eval y, by unfold execOp; simp [ho, hb, asBool], ?_⟩
      cases b
      · exact hy
      · exact hx
    split at hs <;> try exact hs.elim
    · rename_i b he
      rw [he] at hc
      generalize hq : a.eval c = q at hc
      cases hc
      simp only [he]
      exact fin b hq
    · rename_i b he
      rw [he] at hc
      generalize hq : a.eval c = q at hc
      cases hc
      simp only [he]
      cases b <;> exact fin _ hq
    · rename_i b he
      rw [he] at hc
      generalize hq : a.eval c = q at hc
      cases hc
      simp only [he]
      cases b <;> exact fin _ hq
  case h_4 t x ho =>
    exact val (by unfold execOp; simp only [ho]) (loadT_run h t _ _ (hev x (by rw [ho]; simp [Op.operands])) hs)
  case h_5 x ho =>
    obtain ⟨⟨p, hp⟩, h2⟩ := nilT_run _ _ (hev x (by rw [ho]; simp [Op.operands])) hs
    exact ⟨a.eval x, by unfold execOp; simp [ho, hp], h2⟩
  case h_6 op t x y _ ho =>
    obtain ⟨hp, v, h1, h2⟩ := binT_run op t _ _ _ _ (hev x (by rw [ho]; simp [Op.operands])) (hev y (by rw [ho]; simp [Op.operands])) hs
    refine ⟨v, ?_, h2⟩
    unfold execOp
    simp only [ho, Sem.run_bind, eqGuard_run op t x y _ _ hp, Result.andThen_ok, h1, Sem.run_pure]
  case h_7 op _ x ho =>
    exact val (by unfold execOp; simp only [ho]) (unT_run op _ _ (hev x (by rw [ho]; simp [Op.operands])) hs)
  case h_8 p q x ho =>
    exact val (by unfold execOp; simp only [ho]) (convT_run p q _ _ (hev x (by rw [ho]; simp [Op.operands])) hs)
  case h_9 fn first caps ho =>
    refine ⟨.func fn (first.map a.eval) (caps.map a.eval), by unfold execOp; simp [ho, Instr.makeFunc], ?_⟩
    refine .clo _ _ _ _ _ _ (by simp) (fun i v d hv hd => sees_args first.toList (fun x hx => hev x (by rw [ho]; simp only [Op.operands, Array.mem_append]; exact .inl (by simpa using hx))) i v d ?_ hd) (by simp) (fun i v d hv hd => sees_args caps.toList (fun x hx => hev x (by rw [ho]; simp only [Op.operands, Array.mem_append]; exact .inr (by simpa using hx))) i v d ?_ hd)
    · rw [← hv]; cases first; simp
    · rw [← hv]; cases caps; simp
  case h_10 t x lo hi mx ho =>
    refine val (by unfold execOp; simp only [ho]) (slT_run t _ _ _ _ _ _ _ _ (hev x (by rw [ho]; simp [Op.operands])) (bd_map lo fun y hy => hev y ?_) (bd_map hi fun y hy => hev y ?_) (bd_map mx fun y hy => hev y ?_) hs)
    · subst hy; rw [ho]; simp [Op.operands]
    · subst hy; rw [ho]; simp [Op.operands]
    · subst hy; rw [ho]; simp [Op.operands]
  case h_11 t x f ho =>
    exact val (by unfold execOp; simp only [ho]) (fldAT_run t f _ _ (hev x (by rw [ho]; simp [Op.operands])) hs)
  case h_12 t x f ho =>
    exact val (by unfold execOp; simp only [ho]) (fldT_run t f _ _ (hev x (by rw [ho]; simp [Op.operands])) hs)
  case h_13 t x i ho =>
    exact val (by unfold execOp; simp only [ho]) (ixAT_run t _ _ _ _ (hev x (by rw [ho]; simp [Op.operands])) (hev i (by rw [ho]; simp [Op.operands])) hs)
  case h_14 t x i ho =>
    exact val (by unfold execOp; simp only [ho]) (ixT_run t _ _ _ _ (hev x (by rw [ho]; simp [Op.operands])) (hev i (by rw [ho]; simp [Op.operands])) hs)
  case h_15 x n ho =>
    exact val (by unfold execOp; simp only [ho]) (exT_run n _ _ (hev x (by rw [ho]; simp [Op.operands])) hs)
  case h_16 xs ts ho =>
    split at hs <;> try exact hs.elim
    rename_i t x hat hxs
    have hx := hev x (by rw [ho]; simp only [Op.operands, Call.operands, Array.mem_append]; exact .inr (by rw [← Array.mem_toList_iff, hxs]; simp))
    obtain ⟨u, h1, h2⟩ := lenT_run (P := P) (m := m) (W := W) t o.type (a.eval x) (ev x) hx hs
    refine ⟨u, ?_, h2⟩
    have e1 : xs = #[x] := by cases xs; simpa using hxs
    have e2 : ts = #[t] := by cases ts; simpa using hat
    unfold execOp
    simp only [ho, resolve, e1, e2, Sem.run_bind, Sem.run_pure, Result.andThen_ok, invoke, builtin]
    simp [h1]
  case h_17 xs ts ho =>
    split at hs <;> try exact hs.elim
    rename_i k x k' y hxs
    have hsees := sees_args (a := a) (ev := ev) xs.toList fun x hx => hev x (by rw [ho]; simp only [Op.operands, Call.operands, Array.mem_append]; exact .inr (by simpa using hx))
    rw [hxs] at hsees
    have hl : xs.toList.length = 2 := by have := congrArg List.length hxs; simpa using this
    obtain ⟨xs⟩ := xs
    match xs, hl with
    | [p, q], _ =>
      have h1 := (hsees 0 _ _ rfl rfl).v_inv
      have h2 := (hsees 1 _ _ rfl rfl).v_inv
      refine ⟨.int k (if y < x then y else x), ?_, .v _ _⟩
      unfold execOp
      simp [ho, resolve, h1, h2, invoke, builtin, Builtin.min_, Builtin.min2]
  case h_18 xs ts ho =>
    split at hs <;> try exact hs.elim
    rename_i k x k' y hxs
    have hsees := sees_args (a := a) (ev := ev) xs.toList fun x hx => hev x (by rw [ho]; simp only [Op.operands, Call.operands, Array.mem_append]; exact .inr (by simpa using hx))
    rw [hxs] at hsees
    have hl : xs.toList.length = 2 := by have := congrArg List.length hxs; simpa using this
    obtain ⟨xs⟩ := xs
    match xs, hl with
    | [p, q], _ =>
      have h1 := (hsees 0 _ _ rfl rfl).v_inv
      have h2 := (hsees 1 _ _ rfl rfl).v_inv
      refine ⟨.int k (if y > x then y else x), ?_, .v _ _⟩
      unfold execOp
      simp [ho, resolve, h1, h2, invoke, builtin, Builtin.max_, Builtin.max2]
end
end Go.Proofs.YthlebalbiokjpaaGreat
