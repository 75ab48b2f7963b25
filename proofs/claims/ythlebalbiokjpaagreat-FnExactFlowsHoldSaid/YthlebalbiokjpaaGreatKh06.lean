/- The walk by reckoning is right: steps that make and write variables of ours; rows of elements. | The walk by reckoning is right: operations that make and write. -/
import Derived.Test.YthlebalbiokjpaaGreatKh05
namespace Go.Proofs.YthlebalbiokjpaaGreat
open Go.RowKit
set_option linter.unusedVariables false
set_option linter.unusedSimpArgs false
section
variable {U0 R : Ex} {H H1 : List Bx} {m : List Loc} {W W' : World}
/-- Each variable is the old one, with something else in it, or gone. -/
structure Olds (H H1 : List Bx) : Prop where
  len : H1.length = H.length
  at_ : ∀ (p : Nat) (x' : Bx), H1[p]? = some x' → x'.live = true → ∃ x, H[p]? = some x ∧ x.live = true ∧ (x'.fr = false → x.fr = false)
theorem Frz.olds (h : Frz H H1) : Olds H H1 := ⟨h.len, fun p x' hx hl => by
  obtain ⟨x, h1, h2, h3, -⟩ := h.live hx
  exact ⟨x, h1, by rw [← h2]; exact hl, h3⟩⟩
theorem Olds.set (h : Olds H H1) {b : Nat} {x y : Bx} (hb : H[b]? = some x) (hx : x.live = true) (hf : y.fr = false → x.fr = false) : Olds H (H1.set b y) := ⟨by rw [List.length_set]; exact h.len, fun p x' hp hl => by
  rw [List.getElem?_set] at hp
  split at hp
  · rename_i e
    subst e
    split at hp <;> cases hp
    exact ⟨x, hb, hx, hf⟩
  · exact h.at_ p x' hp hl⟩
theorem Olds.gone (h : Olds H H1) (b : Nat) : Olds H (H1.set b Bx.gone) := ⟨by rw [List.length_set]; exact h.len, fun p x' hp hl => by
  rw [List.getElem?_set] at hp
  split at hp
  · split at hp <;> cases hp
    cases hl
  · exact h.at_ p x' hp hl⟩
theorem step_old (hi : HI U0 H m W) (ho : Olds H H1) (hc : Chg R W W') (hR : ∀ k, R k → Mut H m k) : Step U0 H m W R H1 [] W' := by
  refine ⟨hc, hR, by rw [List.append_nil, hi.ml, ho.len], fun p x' L h1 h2 h3 => ?_, fun p p' x x' L L' hlt h1 h2 h3 h4 h5 h6 k hk hk' => ?_⟩
  · rw [List.append_nil] at h3
    obtain ⟨x, g1, g2, g3⟩ := ho.at_ p x' h1 h2
    exact ⟨hi.nd p x L g1 g2 h3, .inl ⟨p, x, L, g1, g2, h3, fun _ h => h, fun h => ⟨h, rfl⟩, g3⟩⟩
  · rw [List.append_nil] at h3 h6
    obtain ⟨y, g1, g2, -⟩ := ho.at_ p x h1 h2
    obtain ⟨y', q1, q2, -⟩ := ho.at_ p' x' h4 h5
    have := hi.dj p p' y y' L L' g1 g2 h3 q1 q2 h6 k hk hk'
    omega
theorem app1 (hml : m.length = H1.length) {x' : Bx} {L : Loc} {p : Nat} {y : Bx} {K : Loc} (h1 : (H1 ++ [x'])[p]? = some y) (h3 : (m ++ [L])[p]? = some K) : (p < H1.length ∧ H1[p]? = some y ∧ m[p]? = some K) ∨ (p = H1.length ∧ y = x' ∧ K = L) := by
  by_cases hp : p < H1.length
  · rw [List.getElem?_append_left hp] at h1
    rw [List.getElem?_append_left (by omega)] at h3
    exact .inl ⟨hp, h1, h3⟩
  · rw [List.getElem?_append_right (by omega)] at h1 h3
    have : p - H1.length = 0 := by
      have := (List.getElem?_eq_some_iff.1 h1).1
      simp at this; omega
    rw [hml, this] at h3
    rw [this] at h1
    simp at h1 h3
    exact .inr ⟨by omega, h1.symm, h3.symm⟩
theorem step_new (hi : HI U0 H m W) (ho : Olds H H1) (hc : Chg R W W') (hR : ∀ k, R k → Mut H m k) (x' : Bx) (L : Loc) (hnd : L.foot.Nodup) (hL : ∀ k ∈ L.foot, W.heap.size ≤ k ∧ k < W'.heap.size) : Step U0 H m W R (H1 ++ [x']) [L] W' := by
  have hml : m.length = H1.length := hi.ml.trans ho.len.symm
  have st := step_old hi ho hc hR
  refine ⟨hc, hR, by simp [hml], fun p y K h1 h2 h3 => ?_, fun p p' x y K K' hlt h1 h2 h3 h4 h5 h6 k hk hk' => ?_⟩
  · rcases app1 hml h1 h3 with ⟨hp, e1, e2⟩ | ⟨-, rfl, rfl⟩
    · have := st.org p y K e1 h2 (by rw [List.append_nil]; exact e2)
      exact this
    · exact ⟨hnd, .inr hL⟩
  · rcases app1 hml h1 h3 with ⟨hp, e1, e2⟩ | ⟨e, -, -⟩
    · rcases app1 hml h4 h6 with ⟨hp', e3, e4⟩ | ⟨-, rfl, rfl⟩
      · exact st.dj p p' x y K K' hlt e1 h2 (by rw [List.append_nil]; exact e2) e3 h5 (by rw [List.append_nil]; exact e4) k hk hk'
      · obtain ⟨z, g1, g2, -⟩ := ho.at_ p x e1 h2
        have := (hi.lt p z K g1 g2 e2 k hk).1
        have := (hL k hk').1
        omega
    · have := (List.getElem?_eq_some_iff.1 h4).1
      simp at this; omega
theorem step_move (hi : HI U0 H m W) (ho : Olds H H1) (hc : Chg R W W') (hR : ∀ k, R k → Mut H m k) {b : Nat} {x0 : Bx} {L0 : Loc} (hb : H[b]? = some x0) (hl : x0.live = true) (hf : x0.fr = false) (hL0 : m[b]? = some L0) (hg : ∀ y, H1[b]? = some y → y.live = false) (x' : Bx) (L : Loc) (hnd : L.foot.Nodup) (hL : ∀ k ∈ L.foot, k ∈ L0.foot) (hon : L.on = true → L0.on = true ∧ L0.blk = L.blk) : Step U0 H m W R (H1 ++ [x']) [L] W' := by
  have hml : m.length = H1.length := hi.ml.trans ho.len.symm
  have st := step_old hi ho hc hR
  refine ⟨hc, hR, by simp [hml], fun p y K h1 h2 h3 => ?_, fun p p' x y K K' hlt h1 h2 h3 h4 h5 h6 k hk hk' => ?_⟩
  · rcases app1 hml h1 h3 with ⟨hp, e1, e2⟩ | ⟨-, rfl, rfl⟩
    · exact st.org p y K e1 h2 (by rw [List.append_nil]; exact e2)
    · exact ⟨hnd, .inl ⟨b, x0, L0, hb, hl, hL0, hL, hon, fun _ => hf⟩⟩
  · rcases app1 hml h1 h3 with ⟨hp, e1, e2⟩ | ⟨e, -, -⟩
    · rcases app1 hml h4 h6 with ⟨hp', e3, e4⟩ | ⟨-, rfl, rfl⟩
      · exact st.dj p p' x y K K' hlt e1 h2 (by rw [List.append_nil]; exact e2) e3 h5 (by rw [List.append_nil]; exact e4) k hk hk'
      · obtain ⟨z, g1, g2, -⟩ := ho.at_ p x e1 h2
        have := hi.dj p b z x0 K L0 g1 g2 e2 hb hl hL0 k hk (hL k hk')
        subst this
        rw [hg x e1] at h2; cases h2
    · have := (List.getElem?_eq_some_iff.1 h4).1
      simp at this; omega
theorem BxOk.fr {U : Ex} {x x' : Bx} {L : Loc} (h : BxOk U W m x L) (e : x' = { x with fr := x'.fr }) : BxOk U W m x' L := by
  rw [e]
  obtain ⟨ty, c, fr, dp⟩ := x
  cases c <;> exact h
/-- A variable that is not written. -/
theorem bx_kept {H' : List Bx} {m2 : List Loc} (hi : HI U0 H m W) (st : Step U0 H m W R H' m2 W') {p : Nat} {x x' : Bx} {L : Loc} (hx : H[p]? = some x) (hl : x.live = true) (hL : m[p]? = some L) (e : x' = { x with fr := x'.fr }) (hR : ∀ k ∈ L.foot, ¬ R k) : BxOk (Uof U0 H' (m ++ m2)) W' (m ++ m2) x' L :=
  (st.same (hi.bx p x L hx hL) fun k hk => ⟨(hi.lt p x L hx hl hL k hk).1, hR k hk⟩).fr e
end
/-! ## Rows -/
theorem row_one : ∀ (k : Kd) (x : El k) (d : Da), d ∈ row k x → d.one = true := by
  intro k x d hd
  cases k <;> simp only [row, List.mem_cons, List.not_mem_nil, or_false] at hd <;> (repeat' (rcases hd with rfl | hd)) <;> first | rfl | (subst hd; rfl)
theorem Sees.one {U : Ex} {W : World} {m : List Loc} {v : Value} {d : Da} (hv : Sees U W m v d) (hd : d.one = true) : v.oneCell' = true := by
  cases hv <;> first | rfl | exact hd | (simp [Da.one] at hd; done) | skip
  rename_i c ds h2 h1
  cases c
  · rw [h2 rfl]; rfl
  · cases h1 rfl; rfl
/-- Values laid row by row. -/
def laidV (n w : Nat) (f : Nat → Nat → Value) : List Value := (List.range (n * w)).map fun q => f (q / w) (q % w)
theorem laidV_len (n w : Nat) (f : Nat → Nat → Value) : (laidV n w f).length = n * w := by simp [laidV]
theorem laidV_get {n w : Nat} {f : Nat → Nat → Value} {q : Nat} {u : Value} (h : (laidV n w f)[q]? = some u) : q < n * w ∧ u = f (q / w) (q % w) := by
  unfold laidV at h
  rw [List.getElem?_map, Option.map_eq_some_iff] at h
  obtain ⟨a, ha, rfl⟩ := h
  obtain ⟨h1, h2⟩ := List.getElem?_eq_some_iff.1 ha
  simp at h1 h2
  subst h2
  exact ⟨h1, rfl⟩
theorem laidV_at {n w : Nat} {f : Nat → Nat → Value} {i j : Nat} (hi : i < n) (hj : j < w) : (laidV n w f)[i * w + j]? = some (f i j) := by
  have hlt : i * w + j < n * w := by
    have : (i + 1) * w ≤ n * w := Nat.mul_le_mul_right w hi
    rw [Nat.add_mul, Nat.one_mul] at this
    omega
  unfold laidV
  rw [List.getElem?_map, List.getElem?_eq_getElem (by simpa using hlt), Option.map_some]
  simp only [List.getElem_range]
  rw [Nat.mul_comm i w, Nat.mul_add_div (by omega), Nat.div_eq_of_lt hj, Nat.add_zero, Nat.mul_add_mod, Nat.mod_eq_of_lt hj]
/-- Cells that hold elements. -/
structure Holding (U : Ex) (W : World) (k : Kd) (l : List (El k)) (news : List Value) : Prop where
  len : news.length = l.length * wid k
  at_ : ∀ (i j : Nat) (e : El k) (d : Da), l[i]? = some e → (row k e)[j]? = some d → ∃ u, news[i * wid k + j]? = some u ∧ Sees U W [] u d
theorem row_lt {k : Kd} {e : El k} {j : Nat} {d : Da} (h : (row k e)[j]? = some d) : j < wid k := by
  have := (List.getElem?_eq_some_iff.1 h).1
  rwa [row_wid] at this
theorem row_some {k : Kd} (e : El k) {j : Nat} (h : j < wid k) : ∃ d, (row k e)[j]? = some d := ⟨_, List.getElem?_eq_getElem (by rw [row_wid]; exact h)⟩
theorem cell_lt {n w i j : Nat} (hi : i < n) (hj : j < w) : i * w + j < n * w := by
  have : (i + 1) * w ≤ n * w := Nat.mul_le_mul_right w hi
  rw [Nat.add_mul, Nat.one_mul] at this
  omega
theorem cell_split {n w q : Nat} (hw : 0 < w) (h : q < n * w) : q / w < n ∧ q % w < w ∧ q / w * w + q % w = q :=
  ⟨Nat.div_lt_of_lt_mul (by rw [Nat.mul_comm]; exact h), Nat.mod_lt _ hw, by rw [Nat.mul_comm]; exact Nat.div_add_mod q w⟩
theorem Holding.one {U : Ex} {W : World} {k : Kd} {l : List (El k)} {news : List Value} (h : Holding U W k l news) : ∀ u ∈ news, u.oneCell' = true := by
  intro u hu
  obtain ⟨q, hq, rfl⟩ := List.getElem_of_mem hu
  obtain ⟨h1, h2, h3⟩ := cell_split (wid_pos k) (by rw [← h.len]; exact hq)
  obtain ⟨d, hd⟩ := row_some (k := k) (l[q / wid k]'h1) h2
  obtain ⟨u, hu, hs⟩ := h.at_ _ _ _ d (List.getElem?_eq_getElem h1) hd
  rw [h3, List.getElem?_eq_getElem hq] at hu
  cases hu
  exact hs.one (row_one k _ d (List.mem_of_getElem? hd))
theorem Holding.app {U : Ex} {W : World} {k : Kd} {l l2 : List (El k)} {news news2 : List Value} (h : Holding U W k l news) (h2 : Holding U W k l2 news2) : Holding U W k (l ++ l2) (news ++ news2) := by
  refine ⟨by simp [h.len, h2.len, Nat.add_mul], fun i j e d hi hd => ?_⟩
  have hj := row_lt hd
  by_cases hlt : i < l.length
  · rw [List.getElem?_append_left hlt] at hi
    rw [List.getElem?_append_left (by rw [h.len]; exact cell_lt hlt hj)]
    exact h.at_ i j e d hi hd
  · rw [List.getElem?_append_right (by omega)] at hi
    obtain ⟨u, hu, hs⟩ := h2.at_ _ j e d hi hd
    refine ⟨u, ?_, hs⟩
    have : l.length * wid k ≤ i * wid k := Nat.mul_le_mul_right _ (by omega)
    rw [List.getElem?_append_right (by rw [h.len]; omega), h.len, ← hu, Nat.sub_mul]
    congr 1
    omega
theorem Holding.chg {U U' : Ex} {W W' : World} {k : Kd} {l : List (El k)} {news : List Value} (h : Holding U W k l news) (hS : ∀ (v : Value) (d : Da), Sees U W [] v d → Sees U' W' [] v d) : Holding U' W' k l news :=
  ⟨h.len, fun i j e d hi hd => by obtain ⟨u, hu, hs⟩ := h.at_ i j e d hi hd; exact ⟨u, hu, hS _ _ hs⟩⟩
theorem Holding.nil {U : Ex} {W : World} {k : Kd} : Holding U W k [] [] := ⟨by simp, fun i j e d hi => by simp at hi⟩
section
variable {P : Program} {Γ : Ctx} {U : Ex} {H : List Bx} {U0 : Ex} {m : List Loc} {W : World}
/-- The cells of a slice that is read. -/
theorem lst_cells {k : Kd} {l : List (El k)} {v : Value} (h : Sees U W m v (.lst k l)) : ∃ A c news, v = .slice A l.length c ∧ Holding U W k l news ∧ (news = [] ∨ ∃ ad, A = some ad ∧ ∀ j u, news[j]? = some u → W.cell? (ad.add j) = some u) := by
  cases h with
  | lst _ A c _ _ u h1 h2 h3 =>
    refine ⟨A, c, laidV l.length (wid k) u, rfl, ⟨laidV_len _ _ _, fun i j e d hi hd => ⟨_, laidV_at (List.getElem?_eq_some_iff.1 hi).1 (row_lt hd), h3 i j d e hi hd⟩⟩, ?_⟩
    by_cases hl : l.length = 0
    · exact .inl (List.eq_nil_of_length_eq_zero (by rw [laidV_len, hl, Nat.zero_mul]))
    · have h0 : l[0]? = some (l[0]'(by omega)) := List.getElem?_eq_getElem (by omega)
      obtain ⟨d0, hd0⟩ := row_some (k := k) (l[0]'(by omega)) (wid_pos k)
      obtain ⟨ad, e, -, -⟩ := h2 0 0 d0 _ h0 hd0
      refine .inr ⟨ad, e, fun q v hq => ?_⟩
      obtain ⟨g1, rfl⟩ := laidV_get hq
      obtain ⟨q1, q2, q3⟩ := cell_split (wid_pos k) g1
      obtain ⟨d, hd⟩ := row_some (k := k) (l[q / wid k]'q1) q2
      obtain ⟨ad', e', -, h5⟩ := h2 _ _ d _ (List.getElem?_eq_getElem q1) hd
      rw [e] at e'
      cases e'
      rw [← h5, q3]
theorem src_of_cells {k : Kd} {l : List (El k)} {news : List Value} {tx e' : TypeId} {A : Option Addr} {c : Nat} (hk : P.underlying tx = some (.slice e')) (hh : Holding U W k l news) (hc : news = [] ∨ ∃ ad, A = some ad ∧ ∀ j u, news[j]? = some u → W.cell? (ad.add j) = some u) : Src P (wid k) tx (.slice A l.length c) l.length news W := by
  rcases hc with rfl | ⟨ad, rfl, h⟩
  · have hl : l.length = 0 := by
      have h1 := hh.len
      rcases Nat.eq_zero_or_pos l.length with h | h
      · exact h
      · have := Nat.mul_pos h (wid_pos k)
        rw [List.length_nil] at h1
        omega
    rw [hl]
    cases A with
    | none => exact Src.ofNil W hk c
    | some ad => exact Src.ofSlice W hk ad 0 c [] (by simp) (fun j u hu => by simp at hu) (fun u hu => by cases hu)
  · exact Src.ofSlice W hk ad _ c news hh.len h hh.one
/-- What is appended. -/
theorem srcE_ok (h : HI U0 H m W) {k : Kd} {tx : TypeId} {v : Value} {d : Da} {l : List (El k)} (hv : Sees (Uof U0 H m) W m v d) (hs : srcE P H k tx d = some l) : ∃ news, Src P (wid k) tx v l.length news W ∧ Holding (Uof U0 H m) W k l news := by
  revert hs
  unfold srcE
  split
  · rename_i e' k' l' hu
    intro hs
    split at hs <;> try (cases hs; done)
    rename_i e
    subst e
    cases hs
    obtain ⟨A, c, news, rfl, h1, h2⟩ := lst_cells hv
    exact ⟨news, src_of_cells hu h1 h2, h1⟩
  · rename_i e' k' b lo n hu
    intro hs
    split at hs <;> try (cases hs; done)
    rename_i ty k2 l' fr dp hb
    split at hs <;> try (cases hs; done)
    rename_i e
    obtain ⟨rfl, rfl⟩ := e
    cases hs
    obtain ⟨L, A, c, rfl, g1, g2, g3, g4, g5⟩ := hv.sl_inv
    have hln := (h.bx b _ L hb g1).1
    have hlen : n = ((l'.drop lo).take n).length := by simp; omega
    have hs2 := lst_of h hb g1 g2 g3 g4 g5 (U := fun _ => False) (fun _ h => h.elim) (fun _ h => h)
    have hb2 := h.bx b _ L hb g1
    -- cells read as they lie
    obtain ⟨g6, g7, g8, g9⟩ := hb2
    by_cases hc : 0 < c
    · obtain ⟨cs, q1, q2, q3, -⟩ := g9 (g8 (by omega))
      have hA := g5 hc
      have hN : Holding (Uof U0 H m) W k2 ((l'.drop lo).take n) (laidV n (wid k2) fun i j => cs.getD ((lo + i) * wid k2 + j) undef) := by
        refine ⟨by rw [laidV_len]; exact congrArg (· * wid k2) hlen, fun i j e d hi hd => ?_⟩
        have hlt : i < n := by have := (List.getElem?_eq_some_iff.1 hi).1; omega
        rw [List.getElem?_take, if_pos hlt, List.getElem?_drop] at hi
        obtain ⟨u, hu, hs⟩ := q3 (lo + i) j e d hi hd
        refine ⟨u, ?_, hs⟩
        rw [laidV_at hlt (row_lt hd)]
        simp [Array.getD_eq_getD_getElem?, hu]
      refine ⟨_, ?_, hN⟩
      have := src_of_cells (P := P) (tx := tx) (A := A) (c := c) hu hN (.inr ⟨_, hA, fun q u hq => ?_⟩)
      · rw [← hlen] at this ⊢; exact this
      · obtain ⟨r1, rfl⟩ := laidV_get hq
        obtain ⟨r2, r3, r4⟩ := cell_split (wid_pos k2) r1
        rw [Addr.add_mid]
        unfold World.cell?
        simp only [q1, Option.isSome_none, Bool.false_eq_true, if_false]
        have hlt2 : lo * wid k2 + q < cs.size := by
          rw [q2]
          have : (lo + n) * wid k2 ≤ L.cap * wid k2 := Nat.mul_le_mul_right _ (by omega)
          rw [Nat.add_mul] at this
          omega
        have e1 : (lo + q / wid k2) * wid k2 + q % wid k2 = lo * wid k2 + q := by rw [Nat.add_mul, Nat.add_assoc, r4]
        rw [e1, Array.getElem?_eq_getElem hlt2]
        simp [Array.getD_eq_getD_getElem?, Array.getElem?_eq_getElem hlt2]
    · have hn : n = 0 := by omega
      subst hn
      refine ⟨[], ?_, by simpa using Holding.nil⟩
      simp only [List.take_zero, List.length_nil]
      have := src_of_cells (P := P) (tx := tx) (A := A) (c := c) (k := k2) (l := []) (W := W) (U := Uof U0 H m) hu Holding.nil (.inl rfl)
      simpa using this
  · rename_i e' hu
    intro hs
    cases hs
    cases hv
    rename_i A
    exact ⟨[], src_of_cells (P := P) (k := k) (l := []) (U := Uof U0 H m) hu Holding.nil (.inl rfl), Holding.nil⟩
  · rename_i e' hu
    intro hs
    cases hs
    cases hv.v_inv
    exact ⟨[], src_of_cells (P := P) (k := k) (l := []) (U := Uof U0 H m) hu Holding.nil (.inl rfl), Holding.nil⟩
  · rename_i x hu
    intro hs
    split at hs <;> try (cases hs; done)
    rename_i e
    subst e
    cases hs
    cases hv.v_inv
    have hsz : x.data.toList.length = x.size := Array.length_toList
    refine ⟨byteCells x, ?_, ⟨?_, fun i j e d hi hd => ?_⟩⟩
    · have := Src.ofString (P := P) W hu x
      show Src P 1 tx (.string x) x.data.toList.length (byteCells x) W
      rw [hsz]; exact this
    · rw [byteCells_length]; show x.size = x.data.toList.length * 1; rw [hsz, Nat.mul_one]
    · have hj := row_lt hd
      have hj0 : j = 0 := by change j < 1 at hj; omega
      subst hj0
      simp [row] at hd
      subst hd
      refine ⟨.int .u8 (e : UInt8).toNat, ?_, .u8 _ _⟩
      show (byteCells x)[i * 1 + 0]? = _
      unfold byteCells
      rw [List.getElem?_map, Nat.mul_one, Nat.add_zero]
      have hi' : x.data.toList[i]? = some (e : UInt8) := hi
      rw [hi']; rfl
  · intro hs; cases hs
end
end Go.Proofs.YthlebalbiokjpaaGreat
namespace Go.Proofs.YthlebalbiokjpaaGreat
open Go.RowKit
set_option linter.unusedVariables false
set_option linter.unusedSimpArgs false
/-- What an operation has done. -/
def Done (U0 : Ex) (H : List Bx) (m : List Loc) (W : World) (e : Eff) (d : Da) (v : Value) (W' : World) : Prop :=
  ∃ m2, Turned U0 H m W (e.app H) m2 W' ∧ Sees (Uof U0 (e.app H) (m ++ m2)) W' (m ++ m2) v d
theorem app_no (H : List Bx) : Eff.no.app H = H := by simp [Eff.app, Eff.no, setAll]
/-- The old variables, some frozen, some gone. -/
structure Kept (H H1 : List Bx) : Prop where
  len : H1.length = H.length
  at_ : ∀ (p : Nat) (x' : Bx), H1[p]? = some x' → x'.live = true → ∃ x, H[p]? = some x ∧ x.live = true ∧ x' = { x with fr := x'.fr } ∧ (x'.fr = false → x.fr = false)
theorem Kept.olds {H H1 : List Bx} (h : Kept H H1) : Olds H H1 := ⟨h.len, fun p x' hx hl => by
  obtain ⟨x, h1, h2, -, h3⟩ := h.at_ p x' hx hl
  exact ⟨x, h1, h2, h3⟩⟩
theorem Frz.kept {H H1 : List Bx} (h : Frz H H1) : Kept H H1 := ⟨h.len, fun p x' hx hl => by
  obtain ⟨x, h1, h2, h3, h4⟩ := h.live hx
  exact ⟨x, h1, by rw [← h2]; exact hl, h4, h3⟩⟩
theorem Kept.gone {H H1 : List Bx} (h : Kept H H1) (b : Nat) : Kept H (H1.set b Bx.gone) := ⟨by rw [List.length_set]; exact h.len, fun p x' hp hl => by
  rw [List.getElem?_set] at hp
  split at hp
  · split at hp <;> cases hp
    cases hl
  · exact h.at_ p x' hp hl⟩
section
variable {P : Program} {Γ : Ctx} {H H1 : List Bx} {U0 R : Ex} {m : List Loc} {a : Act} {W W' : World}
theorem new_turned (hi : HI U0 H m W) (hk : Kept H H1) (hB : Below W.heap.size W W') (x : Bx) (L : Loc) (hnd : L.foot.Nodup) (hL : ∀ k ∈ L.foot, W.heap.size ≤ k ∧ k < W'.heap.size) (hx : (∀ (v : Value) (d : Da), Sees (Uof U0 H m) W m v d → Sees (Uof U0 (H1 ++ [x]) (m ++ [L])) W' (m ++ [L]) v d) → (∀ (v : Value) (d : Da), Sees (Uof U0 H m) W [] v d → Sees (Uof U0 (H1 ++ [x]) (m ++ [L])) W' [] v d) → BxOk (Uof U0 (H1 ++ [x]) (m ++ [L])) W' (m ++ [L]) x L) :
    Turned U0 H m W (H1 ++ [x]) [L] W' ∧ (∀ (v : Value) (d : Da), Sees (Uof U0 H m) W m v d → Sees (Uof U0 (H1 ++ [x]) (m ++ [L])) W' (m ++ [L]) v d) ∧ (m ++ [L])[H.length]? = some L := by
  have st := step_new (R := fun _ => False) hi hk.olds (Chg.of_below hB) (fun _ h => h.elim) x L hnd hL
  have hml : m.length = H1.length := hi.ml.trans hk.len.symm
  refine ⟨st.turned hi fun p y K h1 h2 h3 => ?_, fun v d hs => st.sees hs, by rw [← hi.ml]; simp⟩
  rcases app1 hml h1 h3 with ⟨hp, e1, e2⟩ | ⟨-, rfl, rfl⟩
  · obtain ⟨z, g1, g2, g3, g4⟩ := hk.at_ p y e1 h2
    exact bx_kept hi st g1 g2 e2 g3 fun _ _ h => h
  · exact hx (fun v d hs => st.sees hs) (fun v d hs => st.sees0 hs)
theorem foot1 (k c n : Nat) : Loc.foot ⟨k, true, c, n, []⟩ = [k] := rfl
theorem done_cells (hi : HI U0 H m W) (t : TypeId) (cs : Array Value) (ds : List Da) (hl : cs.size = ds.length) (hc : ∀ (j : Nat) (v : Value) (d : Da), cs[j]? = some v → ds[j]? = some d → Sees (Uof U0 H m) W m v d) :
    Done U0 H m W ⟨[], [⟨t, .cells ds, false, false⟩]⟩ (.box H.length 0) (.pointer (some ⟨W.heap.size, 0, none⟩)) (W.alloc (.cells cs t)) := by
  have hB : Below W.heap.size W (W.alloc (.cells cs t)) := (Below.refl _ _).alloc (Nat.le_refl _) _
  obtain ⟨h1, h2, h3⟩ := new_turned hi (Frz.refl H).kept hB ⟨t, .cells ds, false, false⟩ ⟨W.heap.size, true, 0, 0, []⟩ (by simp [foot1]) (fun k hk => by simp [foot1] at hk; subst hk; exact ⟨Nat.le_refl _, by simp⟩) fun tr _ =>
    ⟨rfl, cs, heap_alloc_new _ _, hl, fun j v d a b => tr _ _ (hc j v d a b)⟩
  exact ⟨[⟨W.heap.size, true, 0, 0, []⟩], h1, .box _ _ _ _ h3⟩
theorem ls_ok {U : Ex} {m' : List Loc} {e : TypeId} {k : Kd} {l : List (El k)} {g cap : Nat} {cs : Array Value} (hg : W.heap[g]? = some (.cells cs e (0, 0))) (hz : cs.size = cap * wid k) (hl : l.length ≤ cap) (hh : ∀ (i j : Nat) (x : El k) (d : Da), l[i]? = some x → (row k x)[j]? = some d → ∃ u, cs[i * wid k + j]? = some u ∧ Sees U W [] u d) : BxOk U W m' (Bx.ls e k l) ⟨g, true, cap, l.length, []⟩ :=
  ⟨rfl, hl, fun _ => rfl, fun _ => ⟨cs, hg, hz, hh, fun h => by cases h⟩⟩
theorem done_list (hi : HI U0 H m W) (hk : Kept H H1) (hB : Below W.heap.size W W') (hlt : W.heap.size < W'.heap.size) {e : TypeId} {k : Kd} {l : List (El k)} {cap : Nat} {cs : Array Value} (hg : W'.heap[W.heap.size]? = some (.cells cs e (0, 0))) (hz : cs.size = cap * wid k) (hl : l.length ≤ cap)
    (hh : ∀ (i j : Nat) (x : El k) (d : Da), l[i]? = some x → (row k x)[j]? = some d → ∃ u, cs[i * wid k + j]? = some u ∧ Sees (Uof U0 H m) W [] u d) :
    ∃ m2, Turned U0 H m W (H1 ++ [Bx.ls e k l]) m2 W' ∧ Sees (Uof U0 (H1 ++ [Bx.ls e k l]) (m ++ m2)) W' (m ++ m2) (.slice (some ⟨W.heap.size, 0, none⟩) l.length cap) (.sl k H.length 0 l.length) := by
  obtain ⟨h1, h2, h3⟩ := new_turned hi hk hB (Bx.ls e k l) ⟨W.heap.size, true, cap, l.length, []⟩ (by simp [foot1]) (fun q hq => by simp [foot1] at hq; subst hq; exact ⟨Nat.le_refl _, hlt⟩) fun _ tr =>
    ls_ok hg hz hl fun i j x d a b => by obtain ⟨u, hu, hs⟩ := hh i j x d a b; exact ⟨u, hu, tr _ _ hs⟩
  exact ⟨_, h1, .sl _ k _ 0 _ _ _ _ h3 (by simp) hl (by simp) (fun _ => by simp)⟩
/-- A slice that needs no memory. -/
theorem done_none (hi : HI U0 H m W) (hk : Kept H H1) (e : TypeId) (k : Kd) (A : Option Addr) :
    ∃ m2, Turned U0 H m W (H1 ++ [Bx.ls e k []]) m2 W ∧ Sees (Uof U0 (H1 ++ [Bx.ls e k []]) (m ++ m2)) W (m ++ m2) (.slice A 0 0) (.sl k H.length 0 0) := by
  obtain ⟨h1, h2, h3⟩ := new_turned hi hk (Below.refl _ _) (Bx.ls e k []) ⟨0, false, 0, 0, []⟩ (by simp [Loc.foot]) (fun q hq => by simp [Loc.foot] at hq) fun _ _ =>
    ⟨rfl, Nat.le_refl _, fun h => (Nat.lt_irrefl _ h).elim, fun h => by cases h⟩
  exact ⟨_, h1, .sl _ k _ 0 0 _ A 0 h3 (Nat.le_refl _) (Nat.le_refl _) rfl (fun h => (Nat.lt_irrefl _ h).elim)⟩
/-- A variable is written: some others are frozen. -/
theorem done_set (hi : HI U0 H m W) (hf : Frz H H1) {b : Nat} {x : Bx} {L : Loc} (hb : H[b]? = some x) (hl : x.live = true) (hfr : x.fr = false) (hb1 : ∀ y, H1[b]? = some y → y.fr = false) (hL : m[b]? = some L) (hon : L.on = true) {cur : Array Value} {ty : TypeId} (hcur : W.heap[L.blk]? = some (.cells cur ty (0, 0))) (cs : Array Value) (y : Bx) (hy : y.live = true)
    (hx : ∀ {U' : Ex} {m' : List Loc} , (∀ (v : Value) (d : Da), Sees (Uof U0 H m) W m v d → Sees U' (W.setRow L.blk cs) m' v d) → (∀ (v : Value) (d : Da), Sees (Uof U0 H m) W [] v d → Sees U' (W.setRow L.blk cs) [] v d) → (∀ (v : Value) (d : Da), Sees (Uof U0 H1 m) W [] v d → Sees U' (W.setRow L.blk cs) [] v d) → (W.setRow L.blk cs).heap[L.blk]? = some (.cells cs ty (0, 0)) → BxOk U' (W.setRow L.blk cs) m' y L) :
    Turned U0 H m W (H1.set b y) [] (W.setRow L.blk cs) ∧ (∀ (v : Value) (d : Da), Sees (Uof U0 H m) W m v d → Sees (Uof U0 (H1.set b y) (m ++ [])) (W.setRow L.blk cs) (m ++ []) v d) := by
  have ho : Olds H (H1.set b y) := hf.olds.set hb hl (fun _ => hfr)
  have st := step_old (R := fun k => k = L.blk) hi ho (Chg.setRow W L.blk cs) (fun k hk => ⟨b, x, L, hb, hl, hfr, hL, hon, hk.symm⟩)
  refine ⟨st.turned hi fun p z K h1 h2 h3 => ?_, fun v d hs => st.sees hs⟩
  rw [List.append_nil] at h3
  rw [List.getElem?_set] at h1
  split at h1
  · rename_i e
    subst e
    split at h1 <;> cases h1
    rw [hL] at h3
    cases h3
    have hlt : b < H1.length := by rw [hf.len]; exact (List.getElem?_eq_some_iff.1 hb).1
    have hy1 := List.getElem?_eq_getElem hlt
    obtain ⟨y0, q1, q2, q3, -⟩ := hf.live hy1
    rw [hb] at q1
    cases q1
    have hM : Mut H1 m L.blk := ⟨b, _, L, hy1, by rw [q2]; exact hl, hb1 _ hy1, hL, hon, rfl⟩
    refine hx (fun v d hs => st.sees hs) (fun v d hs => st.sees0 hs) (fun v d hs => hs.chg (Chg.setRow W L.blk cs) (fun k hk => .inr (by rw [hk]; exact hM)) (fun k _ hu => ?_)) (setRow_heap W L.blk cur cs ty (0, 0) hcur)
    rcases hu with hu | ⟨b', x', L', e1, e2, e3, e4, e5, e6⟩
    · exact .inl hu
    · rw [List.append_nil] at e4
      rw [List.getElem?_set] at e1
      split at e1
      · rename_i e
        subst e
        rw [hL] at e4
        cases e4
        exact .inr (by rw [← e6]; exact hM)
      · exact .inr ⟨b', x', L', e1, e2, e3, e4, e5, e6⟩
  · rename_i hne
    obtain ⟨q, g1, g2, g3, g4⟩ := hf.kept.at_ p z h1 h2
    exact bx_kept hi st g1 g2 h3 g3 fun k hk hkb => hne (hi.dj b p x q L K hb hl hL g1 g2 h3 k (by rw [hkb]; exact mem_foot hon) hk)
/-- A slice is appended to where it lies: it has a new name. -/
theorem done_move (hi : HI U0 H m W) {b : Nat} {x : Bx} {L : Loc} (hb : H[b]? = some x) (hl : x.live = true) (hfr : x.fr = false) (hL : m[b]? = some L) (hon : L.on = true) {cur : Array Value} {e : TypeId} (hcur : W.heap[L.blk]? = some (.cells cur e (0, 0))) (cs : Array Value) {k : Kd} {l : List (El k)} (hz : cs.size = L.cap * wid k) (hle : l.length ≤ L.cap)
    (hh : ∀ (i j : Nat) (x : El k) (d : Da), l[i]? = some x → (row k x)[j]? = some d → ∃ u, cs[i * wid k + j]? = some u ∧ Sees (Uof U0 H m) W [] u d) :
    ∃ m2, Turned U0 H m W (H.set b Bx.gone ++ [Bx.ls e k l]) m2 (W.setRow L.blk cs) ∧ Sees (Uof U0 (H.set b Bx.gone ++ [Bx.ls e k l]) (m ++ m2)) (W.setRow L.blk cs) (m ++ m2) (.slice (some ⟨L.blk, 0, none⟩) l.length L.cap) (.sl k H.length 0 l.length) := by
  have hlt : b < H.length := (List.getElem?_eq_some_iff.1 hb).1
  have hk : Kept H (H.set b Bx.gone) := (Frz.refl H).kept.gone b
  have hml : m.length = (H.set b Bx.gone).length := hi.ml.trans hk.len.symm
  have st := step_move (R := fun k => k = L.blk) hi hk.olds (Chg.setRow W L.blk cs) (fun k hk => ⟨b, x, L, hb, hl, hfr, hL, hon, hk.symm⟩) hb hl hfr hL (fun y hy => by rw [List.getElem?_set, if_pos rfl, if_pos hlt] at hy; cases hy; rfl) (Bx.ls e k l) ⟨L.blk, true, L.cap, l.length, []⟩ (by simp [foot1]) (fun q hq => by simp [foot1] at hq; subst hq; exact mem_foot hon) (fun _ => ⟨hon, rfl⟩)
  have h3 : (m ++ [(⟨L.blk, true, L.cap, l.length, []⟩ : Loc)])[H.length]? = some ⟨L.blk, true, L.cap, l.length, []⟩ := by rw [← hi.ml]; simp
  refine ⟨_, st.turned hi fun p z K h1 h2 h3 => ?_, .sl _ k _ 0 _ _ _ _ h3 (by simp) hle (by simp) (fun _ => by simp)⟩
  rcases app1 hml h1 h3 with ⟨hp, e1, e2⟩ | ⟨-, rfl, rfl⟩
  · obtain ⟨q, g1, g2, g3, g4⟩ := hk.at_ p z e1 h2
    exact bx_kept hi st g1 g2 e2 g3 fun i hi' hib => by
      have := hi.dj b p x q L K hb hl hL g1 g2 e2 i (by rw [hib]; exact mem_foot hon) hi'
      subst this
      rw [List.getElem?_set, if_pos rfl, if_pos hlt] at e1
      cases e1; cases h2
  · exact ls_ok (setRow_heap W L.blk cur cs e (0, 0) hcur) hz hle fun i j x d a b => by obtain ⟨u, hu, hs⟩ := hh i j x d a b; exact ⟨u, hu, st.sees0 hs⟩
/-- Cells laid into others. -/
def layC0 (cur : Array Value) (o : Nat) (vs : List Value) : Array Value := (cur.toList.take o ++ vs ++ cur.toList.drop (o + vs.length)).toArray
theorem layC0_size {cur : Array Value} {o : Nat} {vs : List Value} (h : o + vs.length ≤ cur.size) : (layC0 cur o vs).size = cur.size := by
  unfold layC0
  simp
  omega
theorem layC0_get {cur : Array Value} {o : Nat} {vs : List Value} (h : o + vs.length ≤ cur.size) (q : Nat) : (layC0 cur o vs)[q]? = if q < o then cur[q]? else if q < o + vs.length then vs[q - o]? else cur[q]? := by
  unfold layC0
  have hlen : (cur.toList.take o).length = o := by simp; omega
  rw [List.getElem?_toArray, List.append_assoc]
  by_cases h1 : q < o
  · rw [if_pos h1, List.getElem?_append_left (by omega), List.getElem?_take, if_pos h1, Array.getElem?_toList]
  · rw [if_neg h1, List.getElem?_append_right (by omega), hlen]
    by_cases h2 : q < o + vs.length
    · rw [if_pos h2, List.getElem?_append_left (by omega)]
    · rw [if_neg h2, List.getElem?_append_right (by omega), List.getElem?_drop, Array.getElem?_toList]
      congr 1
      omega
theorem run_append_in (w : World) (t tx ty e : TypeId) (i : TypeInfo) (ht : P.underlying t = some (.slice e)) (hi : P.info? e = some i) (g sLen sCap : Nat) (E : TypeId) (cur : Array Value) (hb : w.heap[g]? = some (.cells cur E (0, 0))) (x : Value) (n : Nat) (news : List Value) (hs : Src P i.size tx x n news w) (hroom : sLen + n ≤ sCap) (hz : sLen * i.size + news.length ≤ cur.size) :
    (Builtin.append_ #[t, tx] ty #[.slice (some ⟨g, 0, none⟩) sLen sCap, x]).run P w = .ok (.slice (some ⟨g, 0, none⟩) (sLen + n) sCap) (w.setRow g (layC0 cur (sLen * i.size) news)) := by
  have hst := run_storeCells_at (P := P) g (sLen * i.size) E news 0 cur w hb (by omega) hs.one
  simp only [Nat.add_zero] at hst
  rcases hs.kind with ⟨e', hk⟩ | hk <;> simp [Builtin.append_, run_underlying ht, run_underlying hk, sizeOf, typeInfo, hi, hs.len, hroom, hs.cells, Addr.add_lit, hst, layC0]
theorem run_append_nothing0 (w : World) (t tx ty e : TypeId) (i : TypeInfo) (ht : P.underlying t = some (.slice e)) (hi : P.info? e = some i) (A : Option Addr) (x : Value) (hs : Src P i.size tx x 0 [] w) : (Builtin.append_ #[t, tx] ty #[.slice A 0 0, x]).run P w = .ok (.slice A 0 0) w := by
  cases A with
  | none => rcases hs.kind with ⟨e', hk⟩ | hk <;> simp [Builtin.append_, run_underlying ht, run_underlying hk, sizeOf, typeInfo, hi, hs.len, hs.cells]
  | some ad => rcases hs.kind with ⟨e', hk⟩ | hk <;> simp [Builtin.append_, run_underlying ht, run_underlying hk, sizeOf, typeInfo, hi, hs.len, hs.cells, storeCells]
theorem zc_size (z : Array Value) (n : Nat) : (Builtin.zeroCells z n).size = n * z.size := by simp [Builtin.zeroCells]
theorem kindT_ok {t : TypeId} {q : Kt} (h : kindT P Γ t = some q) : P.underlying t = some (.slice q.e) ∧ P.info? q.e = some q.ie ∧ q.ie.zero = some q.z ∧ q.ie.size = wid q.k ∧ zOkL (row q.k (elDef q.k)) q.z.cells.toList = true ∧ q.ie.bytes ≤ 4096 := by
  unfold kindT at h
  split at h <;> try (cases h; done)
  rename_i e hu
  split at h <;> try (cases h; done)
  rename_i k ie h1 h2
  split at h <;> try (cases h; done)
  rename_i z h3
  split at h <;> try (cases h; done)
  rename_i hc
  cases h
  simp only [Bool.and_eq_true, beq_iff_eq, decide_eq_true_eq] at hc
  exact ⟨hu, h2, h3, hc.1.1, hc.1.2, hc.2⟩
theorem zOk_sees {U : Ex} : ∀ (d : Da) (v : Value), zOk d v = true → Sees U W m v d := by
  intro d v h
  unfold zOk at h
  split at h
  · rename_i x n
    simp at h
    subst h
    exact .u8 _ _
  · simp at h
    obtain ⟨rfl, rfl⟩ := h
    exact .v _ _
  · simp at h
    subst h
    exact .v _ _
  · simp at h
    subst h
    exact .b _ _
  · exact .lst _ none 0 _ [] (fun _ _ => undef) (Nat.le_refl _) (fun i j d x hi => by simp at hi) (fun i j d x hi => by simp at hi)
  · cases h
theorem zOkL_get : ∀ {ds : List Da} {vs : List Value}, zOkL ds vs = true → ds.length = vs.length ∧ ∀ (j : Nat) (d : Da), ds[j]? = some d → ∃ v, vs[j]? = some v ∧ zOk d v = true
  | [], [], _ => ⟨rfl, fun j d h => by simp at h⟩
  | d :: r, v :: s, h => by
    simp only [zOkL, Bool.and_eq_true] at h
    obtain ⟨h1, h2⟩ := zOkL_get h.2
    refine ⟨by simp [h1], fun j e he => ?_⟩
    cases j with
    | zero => simp at he; subst he; exact ⟨v, rfl, h.1⟩
    | succ j => obtain ⟨u, g1, g2⟩ := h2 j e (by simpa using he); exact ⟨u, by simpa using g1, g2⟩
  | [], _ :: _, h => by cases h
  | _ :: _, [], h => by cases h
theorem small0_le {n : Nat} (h : small0 n = true) : n ≤ 1073741824 := by simpa [small0] using h
theorem fits_ok {n b c : Nat} (h : n ≤ 1073741824) (hb : b ≤ 4096) (hc : c < n) : Builtin.nextslicecap n c * b ≤ 281474976710656 := growslice_fits hc (by
  have : n * b ≤ 1073741824 * 4096 := Nat.mul_le_mul h hb
  omega)
/-- A new row is made for what is appended. -/
theorem grow_turned (hi : HI U0 H m W) (hk : Kept H H1) {t tx ty : TypeId} {q : Kt} (hq : kindT P Γ t = some q) {A : Option Addr} {n c : Nat} {olds : List Value} {l l2 : List (El q.k)} {v : Value} {news : List Value} (hln : l.length = n) (ho : Holding (Uof U0 H m) W q.k l olds)
    (hold : (Builtin.firstCells q.ie.size n (.slice A n c)).run P W.drew = .ok olds.toArray W.drew) (hs : Src P (wid q.k) tx v l2.length news W) (hn : Holding (Uof U0 H m) W q.k l2 news) (hg : c < n + l2.length) (hsm : small0 (n + l2.length) = true) :
    ∃ W' cap, (Builtin.append_ #[t, tx] ty #[.slice A n c, v]).run P W = .ok (.slice (some ⟨W.heap.size, 0, none⟩) (n + l2.length) cap) W' ∧ ∃ m2, Turned U0 H m W (H1 ++ [Bx.ls q.e q.k (l ++ l2)]) m2 W' ∧ Sees (Uof U0 (H1 ++ [Bx.ls q.e q.k (l ++ l2)]) (m ++ m2)) W' (m ++ m2) (.slice (some ⟨W.heap.size, 0, none⟩) (n + l2.length) cap) (.sl q.k H.length 0 (n + l2.length)) := by
  obtain ⟨h1, h2, h3, h4, h5, h6⟩ := kindT_ok hq
  have hle := small0_le hsm
  have hr := run_append_grow_src (P := P) W t tx ty q.e q.ie q.z h1 h2 h3 A n c olds hold v l2.length news (by rw [h4]; exact hs) hg (by omega) (fits_ok hle h6 hg)
  have hge := grownCap_ge W (n + l2.length) c q.e
  generalize grownCap W (n + l2.length) c q.e = cap at hr hge
  have hzs : q.z.cells.size = wid q.k := by
    have := (zOkL_get h5).1
    rw [row_wid] at this
    simpa using this.symm
  have happ := ho.app hn
  have hB : Below W.heap.size W (W.drew.alloc (.cells ((olds ++ news).toArray ++ Builtin.zeroCells q.z.cells (cap - (n + l2.length))) q.e)) := ((Below.refl _ _).drew).alloc (Nat.le_refl _) _
  have hlen : (l ++ l2).length = n + l2.length := by simp [hln]
  refine ⟨_, _, hr, ?_⟩
  have := done_list hi hk hB (by simp) (e := q.e) (k := q.k) (l := l ++ l2) (cap := cap) (cs := (olds ++ news).toArray ++ Builtin.zeroCells q.z.cells (cap - (n + l2.length))) (heap_alloc_new W.drew _) (by
      rw [Array.size_append, zc_size, hzs, List.size_toArray, happ.len, hlen, ← Nat.add_mul]
      congr 1
      omega) (by rw [hlen]; exact hge) (fun i j x d hi' hd => by
      obtain ⟨u, hu, hs'⟩ := happ.at_ i j x d hi' hd
      refine ⟨u, ?_, hs'⟩
      rw [Array.getElem?_append_left (by rw [List.size_toArray]; exact (List.getElem?_eq_some_iff.1 hu).1), List.getElem?_toArray]
      exact hu)
  rw [hlen] at this
  exact this
theorem appT_ok (hi : HI U0 H m W) {t tx ty : TypeId} {v w : Value} {d e : Da} (hv : Sees (Uof U0 H m) W m v d) (hw : Sees (Uof U0 H m) W m w e) (hs : (appT P Γ H t tx d e).safe) :
    ∃ u W', (Builtin.append_ #[t, tx] ty #[v, w]).run P W = .ok u W' ∧ Done U0 H m W (appT P Γ H t tx d e).get.2 (appT P Γ H t tx d e).get.1 u W' := by
  revert hs
  unfold appT
  split
  · intro hs; exact hs.elim
  rename_i q hq
  split
  · intro hs; exact hs.elim
  rename_i l2 hl2
  obtain ⟨news, hsrc, hh⟩ := srcE_ok hi hw hl2
  obtain ⟨k1, k2, k3, k4, k5, k6⟩ := kindT_ok hq
  -- onto nothing
  have fresh : ∀ A, small0 l2.length = true → ∃ u W', (Builtin.append_ #[t, tx] ty #[.slice A 0 0, w]).run P W = .ok u W' ∧ Done U0 H m W ⟨[], [Bx.ls q.e q.k l2]⟩ (.sl q.k H.length 0 l2.length) u W' := fun A hsm => by
    by_cases h0 : l2.length = 0
    · have hnil : l2 = [] := List.eq_nil_of_length_eq_zero h0
      subst hnil
      have hn0 : news = [] := List.eq_nil_of_length_eq_zero (by rw [hh.len]; simp)
      subst hn0
      have hr := run_append_nothing0 (P := P) W t tx ty q.e q.ie k1 k2 A w (by rw [k4]; exact hsrc)
      obtain ⟨m2, g1, g2⟩ := done_none hi (Frz.refl H).kept q.e q.k A
      exact ⟨_, _, hr, m2, g1, g2⟩
    · have hold : (Builtin.firstCells q.ie.size 0 (.slice A 0 0)).run P W.drew = .ok (#[] : Array Value) W.drew := by
        cases A with
        | none => exact run_firstCells_none W.drew _ _ _ _
        | some ad => exact run_firstCells_some W.drew _ _ ad _ _ [] (by simp) (fun j u hu => by simp at hu)
      obtain ⟨W', cap, g1, m2, g2, g3⟩ := grow_turned (ty := ty) hi (Frz.refl H).kept hq (A := A) (n := 0) (c := 0) (olds := []) (l := []) rfl Holding.nil (by simpa using hold) hsrc hh (by omega) (by rw [Nat.zero_add]; exact hsm)
      rw [Nat.zero_add] at g1 g3
      exact ⟨_, _, g1, m2, g2, g3⟩
  split
  · intro hs
    cases hv
    rename_i A
    have hsm : small0 l2.length = true := by
      cases h : small0 l2.length with
      | true => rfl
      | false => rw [h] at hs; exact (hs.2 rfl).elim
    rw [hsm]
    exact fresh A hsm
  · intro hs
    cases hv.v_inv
    have hsm : small0 l2.length = true := by
      cases h : small0 l2.length with
      | true => rfl
      | false => rw [h] at hs; exact (hs.2 rfl).elim
    rw [hsm]
    exact fresh none hsm
  · rename_i k' b n
    split
    · rename_i ty' k2' l dp hb
      split
      · rename_i he
        obtain ⟨e1, e2, e3⟩ := he
        subst e1 e2 e3
        obtain ⟨L, A, c, rfl, g1, g2, g3, g4, g5⟩ := hv.sl_inv
        rw [Nat.zero_add] at g2 g4
        subst g4
        have hbx := hi.bx b _ L hb g1
        obtain ⟨b1, b2, b3, b4⟩ := hbx
        have hln : n ≤ l.length := by omega
        have htl : (l.take n).length = n := by simp; omega
        -- it stays where it is, or goes
        have go : small0 (n + l2.length) = true → ∃ u W', (Builtin.append_ #[t, tx] ty #[.slice A n L.cap, w]).run P W = .ok u W' ∧ Done U0 H m W ⟨[(b, Bx.gone)], [Bx.ls q.e q.k (l.take n ++ l2)]⟩ (.sl q.k H.length 0 (n + l2.length)) u W' := fun hsm => by
          have hlen : (l.take n ++ l2).length = n + l2.length := by simp; omega
          by_cases hcap : 0 < L.cap
          · have hA := g5 hcap
            subst hA
            rw [Nat.zero_mul] at *
            obtain ⟨cs, c1, c2, c3, -⟩ := b4 (b3 hcap)
            by_cases hroom : n + l2.length ≤ L.cap
            · have hz : n * q.ie.size + news.length ≤ cs.size := by
                rw [k4, hh.len, c2, ← Nat.add_mul]
                exact Nat.mul_le_mul_right _ hroom
              have hr := run_append_in (P := P) W t tx ty q.e q.ie k1 k2 L.blk n L.cap q.e cs c1 w l2.length news (by rw [k4]; exact hsrc) hroom hz
              obtain ⟨m2, t1, t2⟩ := done_move hi hb rfl rfl g1 (b3 hcap) c1 (layC0 cs (n * q.ie.size) news) (k := q.k) (l := l.take n ++ l2) (by rw [layC0_size hz, c2]) (by rw [hlen]; exact hroom) (fun i j x d hi' hd => by
                have hj := row_lt hd
                by_cases hlt : i < n
                · rw [List.getElem?_append_left (by omega), List.getElem?_take, if_pos hlt] at hi'
                  obtain ⟨u, hu, hs'⟩ := c3 i j x d hi' hd
                  refine ⟨u, ?_, hs'⟩
                  rw [layC0_get hz, if_pos (by rw [k4]; exact cell_lt hlt hj)]
                  exact hu
                · rw [List.getElem?_append_right (by omega), htl] at hi'
                  obtain ⟨u, hu, hs'⟩ := hh.at_ _ j x d hi' hd
                  refine ⟨u, ?_, hs'⟩
                  have hle2 : n * wid q.k ≤ i * wid q.k := Nat.mul_le_mul_right _ (by omega)
                  have hlt3 := (List.getElem?_eq_some_iff.1 hu).1
                  rw [Nat.sub_mul] at hu hlt3
                  rw [layC0_get hz, k4, if_neg (by omega), if_pos (by omega), ← hu]
                  congr 1
                  omega)
              rw [hlen] at t2
              exact ⟨_, _, hr, m2, t1, t2⟩
            · have hN : Holding (Uof U0 H m) W q.k (l.take n) (laidV n (wid q.k) fun i j => cs.getD (i * wid q.k + j) undef) := by
                refine ⟨by rw [laidV_len, htl], fun i j e d hi' hd => ?_⟩
                have hlt : i < n := by have := (List.getElem?_eq_some_iff.1 hi').1; omega
                rw [List.getElem?_take, if_pos hlt] at hi'
                obtain ⟨u, hu, hs'⟩ := c3 i j e d hi' hd
                refine ⟨u, ?_, hs'⟩
                rw [laidV_at hlt (row_lt hd)]
                simp [Array.getD_eq_getD_getElem?, hu]
              have hold : (Builtin.firstCells q.ie.size n (.slice (some ⟨L.blk, 0, none⟩) n L.cap)).run P W.drew = .ok (laidV n (wid q.k) fun i j => cs.getD (i * wid q.k + j) undef).toArray W.drew := by
                refine run_firstCells_some W.drew _ _ _ _ _ _ (by rw [laidV_len, k4]) (fun p u hp => ?_)
                obtain ⟨r1, rfl⟩ := laidV_get hp
                obtain ⟨r2, r3, r4⟩ := cell_split (wid_pos q.k) r1
                have hlt2 : p < cs.size := by
                  rw [c2]
                  have : n * wid q.k ≤ L.cap * wid q.k := Nat.mul_le_mul_right _ g3
                  omega
                rw [r4, Addr.add_mid, Nat.zero_add]
                show W.drew.cell? _ = _
                rw [show W.drew.cell? ⟨L.blk, p, none⟩ = W.cell? ⟨L.blk, p, none⟩ from rfl]
                unfold World.cell?
                simp only [c1, Option.isSome_none, Bool.false_eq_true, if_false]
                rw [Array.getElem?_eq_getElem hlt2]
                simp [Array.getD_eq_getD_getElem?, Array.getElem?_eq_getElem hlt2]
              obtain ⟨W', cap, r1, m2, r2, r3⟩ := grow_turned (ty := ty) hi ((Frz.refl H).kept.gone b) hq (A := some ⟨L.blk, 0, none⟩) (n := n) (c := L.cap) htl hN hold hsrc hh (by omega) hsm
              exact ⟨_, _, r1, m2, r2, r3⟩
          · have hc0 : L.cap = 0 := by omega
            have hn0 : n = 0 := by omega
            subst hn0
            rw [hc0]
            simp only [List.take_zero, List.nil_append, Nat.zero_add]
            rw [Nat.zero_add] at hsm
            by_cases h0 : l2.length = 0
            · have hnil : l2 = [] := List.eq_nil_of_length_eq_zero h0
              subst hnil
              have hn0 : news = [] := List.eq_nil_of_length_eq_zero (by rw [hh.len]; simp)
              subst hn0
              have hr := run_append_nothing0 (P := P) W t tx ty q.e q.ie k1 k2 A w (by rw [k4]; exact hsrc)
              obtain ⟨m2, g1, g2⟩ := done_none hi ((Frz.refl H).kept.gone b) q.e q.k A
              exact ⟨_, _, hr, m2, g1, g2⟩
            · have hold : (Builtin.firstCells q.ie.size 0 (.slice A 0 0)).run P W.drew = .ok (#[] : Array Value) W.drew := by
                cases A with
                | none => exact run_firstCells_none W.drew _ _ _ _
                | some ad => exact run_firstCells_some W.drew _ _ ad _ _ [] (by simp) (fun j u hu => by simp at hu)
              obtain ⟨W', cap, g1, m2, g2, g3⟩ := grow_turned (ty := ty) hi ((Frz.refl H).kept.gone b) hq (A := A) (n := 0) (c := 0) (olds := []) (l := []) rfl Holding.nil (by simpa using hold) hsrc hh (by omega) (by rw [Nat.zero_add]; exact hsm)
              rw [Nat.zero_add] at g1 g3
              exact ⟨_, _, g1, m2, g2, g3⟩
        have goS : (Tree.node (small0 (n + l2.length)) (.leaf (Da.sl q.k H.length 0 (n + l2.length), (⟨[(b, Bx.gone)], [Bx.ls q.e q.k (l.take n ++ l2)]⟩ : Eff))) .bad).safe → ∃ u W', (Builtin.append_ #[t, tx] ty #[.slice A n L.cap, w]).run P W = .ok u W' ∧ Done U0 H m W (Tree.node (small0 (n + l2.length)) (.leaf (Da.sl q.k H.length 0 (n + l2.length), (⟨[(b, Bx.gone)], [Bx.ls q.e q.k (l.take n ++ l2)]⟩ : Eff))) .bad).get.2 (Tree.node (small0 (n + l2.length)) (.leaf (Da.sl q.k H.length 0 (n + l2.length), (⟨[(b, Bx.gone)], [Bx.ls q.e q.k (l.take n ++ l2)]⟩ : Eff))) .bad).get.1 u W' := fun hs => by
          have hsm : small0 (n + l2.length) = true := by
            cases h : small0 (n + l2.length) with
            | true => rfl
            | false => rw [h] at hs; exact (hs.2 rfl).elim
          rw [hsm]
          exact go hsm
        split
        · rename_i kx bq lo2 n2
          split
          · rename_i hbb
            intro hs
            have hfit : n + l2.length ≤ l.length := by
              by_cases h : n + l2.length ≤ l.length
              · exact h
              · simp [h, Tree.safe] at hs
            simp only [hfit, decide_true, Tree.get, cond_true]
            by_cases hcap : 0 < L.cap
            · have hA := g5 hcap
              subst hA
              rw [Nat.zero_mul] at *
              obtain ⟨cs, c1, c2, c3, -⟩ := b4 (b3 hcap)
              have hroom : n + l2.length ≤ L.cap := by omega
              have hz : n * q.ie.size + news.length ≤ cs.size := by
                rw [k4, hh.len, c2, ← Nat.add_mul]
                exact Nat.mul_le_mul_right _ hroom
              have hr := run_append_in (P := P) W t tx ty q.e q.ie k1 k2 L.blk n L.cap q.e cs c1 w l2.length news (by rw [k4]; exact hsrc) hroom hz
              have hll : (l.take n ++ l2 ++ l.drop (n + l2.length)).length = l.length := by simp; omega
              obtain ⟨t1, t2⟩ := done_set hi (Frz.refl H) hb rfl rfl (fun y hy => by rw [hb] at hy; cases hy; rfl) g1 (b3 hcap) c1 (layC0 cs (n * q.ie.size) news) (Bx.ls q.e q.k (l.take n ++ l2 ++ l.drop (n + l2.length))) rfl (fun {U' m'} tr tr0 tr1 hrow => by
                refine ⟨by rw [hll]; exact b1, by rw [hll]; exact b2, fun _ => b3 hcap, fun _ => ⟨_, hrow, by rw [layC0_size hz, c2], fun i j x d hi' hd => ?_, fun h => by cases h⟩⟩
                have hj := row_lt hd
                by_cases hlt : i < n
                · rw [List.append_assoc, List.getElem?_append_left (by omega), List.getElem?_take, if_pos hlt] at hi'
                  obtain ⟨u, hu, hs'⟩ := c3 i j x d hi' hd
                  refine ⟨u, ?_, tr0 _ _ hs'⟩
                  rw [layC0_get hz, if_pos (by rw [k4]; exact cell_lt hlt hj)]
                  exact hu
                · by_cases hlt2 : i < n + l2.length
                  · rw [List.append_assoc, List.getElem?_append_right (by omega), htl, List.getElem?_append_left (by omega)] at hi'
                    obtain ⟨u, hu, hs'⟩ := hh.at_ _ j x d hi' hd
                    refine ⟨u, ?_, tr0 _ _ hs'⟩
                    have hle2 : n * wid q.k ≤ i * wid q.k := Nat.mul_le_mul_right _ (by omega)
                    have hlt3 := (List.getElem?_eq_some_iff.1 hu).1
                    rw [Nat.sub_mul] at hu hlt3
                    rw [layC0_get hz, k4, if_neg (by omega), if_pos (by omega), ← hu]
                    congr 1
                    omega
                  · rw [List.getElem?_append_right (by simp; omega), List.getElem?_drop] at hi'
                    have e4 : n + l2.length + (i - (l.take n ++ l2).length) = i := by simp; omega
                    rw [e4] at hi'
                    obtain ⟨u, hu, hs'⟩ := c3 i j x d hi' hd
                    refine ⟨u, ?_, tr0 _ _ hs'⟩
                    have hle2 : (n + l2.length) * wid q.k ≤ i * wid q.k := Nat.mul_le_mul_right _ (by omega)
                    rw [Nat.add_mul] at hle2
                    rw [layC0_get hz, k4, hh.len, if_neg (by omega), if_neg (by omega)]
                    exact hu)
              refine ⟨_, _, hr, [], ?_, ?_⟩
              · have e5 : (⟨[(b, Bx.ls q.e q.k (l.take n ++ l2 ++ l.drop (n + l2.length)))], []⟩ : Eff).app H = H.set b (Bx.ls q.e q.k (l.take n ++ l2 ++ l.drop (n + l2.length))) := by simp [Eff.app, setAll]
                rw [e5]; exact t1
              · exact .sl _ q.k b 0 _ L _ L.cap (by rw [List.append_nil]; exact g1) (by omega) (by omega) (by omega) (fun _ => by simp)
            · have hc0 : L.cap = 0 := by omega
              have hn0 : n = 0 := by omega
              subst hn0
              have h0 : l2.length = 0 := by omega
              have hnil : l2 = [] := List.eq_nil_of_length_eq_zero h0
              subst hnil
              have hl0 : l = [] := List.eq_nil_of_length_eq_zero (by omega)
              subst hl0
              have hn0 : news = [] := List.eq_nil_of_length_eq_zero (by rw [hh.len]; simp)
              subst hn0
              have hr := run_append_nothing0 (P := P) W t tx ty q.e q.ie k1 k2 A w (by rw [k4]; exact hsrc)
              rw [hc0]
              have hx : H.set b (Bx.ls q.e q.k []) = H.set b ⟨q.e, .list q.k [], false, false⟩ := rfl
              have ho : Kept H H := (Frz.refl H).kept
              refine ⟨_, _, hr, [], ?_, .sl _ q.k b 0 _ L A 0 (by rw [List.append_nil]; exact g1) (by simp) (Nat.le_refl _) (by omega) (fun h => (Nat.lt_irrefl _ h).elim)⟩
              have e5 : (⟨[(b, Bx.ls q.e q.k (List.take 0 ([] : List (El q.k)) ++ [] ++ List.drop (0 + ([] : List (El q.k)).length) []))], []⟩ : Eff).app H = H.set b (Bx.ls q.e q.k []) := by simp [Eff.app, setAll]
              rw [e5]
              have ho2 : Olds H (H.set b (Bx.ls q.e q.k [])) := (Frz.refl H).olds.set hb rfl (fun _ => rfl)
              have st := step_old (R := fun _ => False) hi ho2 (Chg.refl _ W) (fun _ h => h.elim)
              refine st.turned hi fun p z K h1 h2 h3 => ?_
              rw [List.append_nil] at h3
              rw [List.getElem?_set] at h1
              split at h1
              · rename_i e
                subst e
                split at h1 <;> cases h1
                rw [g1] at h3
                cases h3
                exact ⟨b1, by simp, fun h => (by omega), fun hon => by
                  obtain ⟨cs, c1, c2, -, -⟩ := b4 hon
                  exact ⟨cs, c1, c2, fun i j x d hi' => by simp at hi', fun h => by cases h⟩⟩
              · obtain ⟨y, y1, y2, y3, y4⟩ := ho.at_ p z h1 h2
                exact bx_kept hi st y1 y2 h3 y3 fun _ _ h => h
          · exact goS
        · exact goS
      · intro hs; exact hs.elim
    · intro hs; exact hs.elim
  · intro hs; exact hs.elim
end
end Go.Proofs.YthlebalbiokjpaaGreat
