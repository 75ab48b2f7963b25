/- The walk by reckoning is right: what values hold outlives steps, renamings; variables of ours, renamed, hidden, written, made. | The walk by reckoning is right: a step on variables of ours, seen from outside; variables hidden; a call that is handed some. -/
import Derived.Test.YthlebalbiokjpaaGreatKhVb
namespace Go.Proofs.YthlebalbiokjpaaGreat
open Go.RowKit
set_option linter.unusedVariables false
set_option linter.unusedSimpArgs false

theorem Sees.turn {U U' : Ex} {W W' : World} (hW : ∀ (ad : Addr) (j : Nat) (u : Value), ¬ U ad.block → W.cell? (ad.add j) = some u → ¬ U' ad.block ∧ W'.cell? (ad.add j) = some u) {m : List Loc} {v : Value} {d : Da} (h : Sees U W m v d) : Sees U' W' m v d := by
  induction h with
  | v m x => exact .v m x
  | u8 m x => exact .u8 m x
  | b m c => exact .b m c
  | nb m c => exact .nb m c
  | any m x => exact .any m x
  | agg m vs ds h1 _ ih => exact .agg m vs ds h1 ih
  | tup m vs ds h1 _ ih => exact .tup m vs ds h1 ih
  | clo m fn fs cs df dc h1 _ h2 _ ih1 ih2 => exact .clo m fn fs cs df dc h1 ih1 h2 ih2
  | box m b off L h => exact .box m b off L h
  | sl m k b lo n L A c h1 h2 h3 h4 h5 => exact .sl m k b lo n L A c h1 h2 h3 h4 h5
  | elt m k b i off L h1 h2 => exact .elt m k b i off L h1 h2
  | emp m A => exact .emp m A
  | ref m ad u ds h1 _ ih => exact .ref m ad u ds (fun j d hj => hW _ _ _ (h1 j d hj).1 (h1 j d hj).2) ih
  | opt m c v ds _ h2 ih => exact .opt m c v ds ih h2
  | lst m A c k l u h1 h2 _ ih =>
    refine .lst m A c k l u h1 (fun i j d x hi hj => ?_) ih
    obtain ⟨ad, e, h3, h4⟩ := h2 i j d x hi hj
    obtain ⟨h5, h6⟩ := hW _ _ _ h3 h4
    exact ⟨ad, e, h5, h6⟩
theorem Sees.mono {U U' : Ex} {W W' : World} (hU : ∀ k, U' k → U k) (hW : ∀ (a : Addr) u, ¬ U a.block → W.cell? a = some u → W'.cell? a = some u) {m : List Loc} {v : Value} {d : Da} (h : Sees U W m v d) : Sees U' W' m v d :=
  h.turn fun ad j u hu hc => ⟨fun h => hu (hU _ h), hW _ _ (by rw [addr_block]; exact hu) hc⟩
theorem Sees.sub {U U' : Ex} {W : World} (hU : ∀ k, U' k → U k) {m : List Loc} {v : Value} {d : Da} (h : Sees U W m v d) : Sees U' W m v d := h.mono hU fun _ _ _ hc => hc
theorem Da.renL_get (f : Nat → Option Nat) : ∀ (ds : List Da) (i : Nat), (Da.renL f ds)[i]? = (ds[i]?).map (Da.ren f)
  | [], i => by simp [Da.renL]
  | d :: r, 0 => by simp [Da.renL]
  | d :: r, i + 1 => by rw [Da.renL, List.getElem?_cons_succ, List.getElem?_cons_succ, Da.renL_get f r]
theorem Da.renL_len (f : Nat → Option Nat) : ∀ ds : List Da, (Da.renL f ds).length = ds.length
  | [] => rfl
  | d :: r => by rw [Da.renL, List.length_cons, List.length_cons, Da.renL_len f r]
/-- Our variables renamed. -/
theorem Sees.ren {U : Ex} {W : World} {f : Nat → Option Nat} {m m' : List Loc} {v : Value} {d : Da} (h : Sees U W m v d) (hf : ∀ (b b' : Nat) (L : Loc), f b = some b' → m[b]? = some L → m'[b']? = some L) : Sees U W m' v (d.ren f) := by
  have list : ∀ {ds : List Da} {vs : Array Value}, (∀ (i : Nat) (v : Value) (d : Da), vs[i]? = some v → ds[i]? = some d → Sees U W m' v (d.ren f)) → ∀ (i : Nat) (v : Value) (d : Da), vs[i]? = some v → (Da.renL f ds)[i]? = some d → Sees U W m' v d := by
    intro ds vs h i v d hv hd
    rw [Da.renL_get, Option.map_eq_some_iff] at hd
    obtain ⟨e, he, rfl⟩ := hd
    exact h i v e hv he
  induction h with
  | v m x => exact .v _ x
  | u8 m x => exact .u8 _ x
  | b m c => exact .b _ c
  | nb m c => exact .nb _ c
  | any m x => exact .any _ x
  | agg m vs ds h1 _ ih => exact .agg _ vs _ (by rw [Da.renL_len]; exact h1) (list fun i v d a b => ih i v d a b hf)
  | tup m vs ds h1 _ ih => exact .tup _ vs _ (by rw [Da.renL_len]; exact h1) (list fun i v d a b => ih i v d a b hf)
  | clo m fn fs cs df dc h1 _ h2 _ ih1 ih2 => exact .clo _ fn fs cs _ _ (by rw [Da.renL_len]; exact h1) (list fun i v d a b => ih1 i v d a b hf) (by rw [Da.renL_len]; exact h2) (list fun i v d a b => ih2 i v d a b hf)
  | box m b off L h =>
    simp only [Da.ren]
    cases hb : f b with
    | none => exact .any _ _
    | some b' => exact .box _ b' off L (hf b b' L hb h)
  | sl m k b lo n L A c h1 h2 h3 h4 h5 =>
    simp only [Da.ren]
    cases hb : f b with
    | none => exact .any _ _
    | some b' => exact .sl _ k b' lo n L A c (hf b b' L hb h1) h2 h3 h4 h5
  | elt m k b i off L h1 h2 =>
    simp only [Da.ren]
    cases hb : f b with
    | none => exact .any _ _
    | some b' => exact .elt _ k b' i off L (hf b b' L hb h1) h2
  | emp m A => exact .emp _ A
  | ref m ad u ds h1 h2 _ => exact .ref _ ad u ds h1 h2
  | opt m c v ds _ h2 ih => exact .opt _ c v ds (fun hc => ih hc hf) h2
  | lst m A c k l u h1 h2 h3 _ => exact .lst _ A c k l u h1 h2 h3
theorem Sees.lift {U : Ex} {W : World} {m m' : List Loc} (hm : ∀ (b : Nat) (L : Loc), m[b]? = some L → m'[b]? = some L) {v : Value} {d : Da} (h : Sees U W m v d) : Sees U W m' v d := by
  induction h generalizing m' with
  | v m x => exact .v _ x
  | u8 m x => exact .u8 _ x
  | b m c => exact .b _ c
  | nb m c => exact .nb _ c
  | any m x => exact .any _ x
  | agg m vs ds h1 _ ih => exact .agg _ vs ds h1 fun i v d a b => ih i v d a b hm
  | tup m vs ds h1 _ ih => exact .tup _ vs ds h1 fun i v d a b => ih i v d a b hm
  | clo m fn fs cs df dc h1 _ h2 _ ih1 ih2 => exact .clo _ fn fs cs df dc h1 (fun i v d a b => ih1 i v d a b hm) h2 (fun i v d a b => ih2 i v d a b hm)
  | box m b off L h => exact .box _ b off L (hm b L h)
  | sl m k b lo n L A c h1 h2 h3 h4 h5 => exact .sl _ k b lo n L A c (hm b L h1) h2 h3 h4 h5
  | elt m k b i off L h1 h2 => exact .elt _ k b i off L (hm b L h1) h2
  | emp m A => exact .emp _ A
  | ref m ad u ds h1 h2 _ => exact .ref _ ad u ds h1 h2
  | opt m c v ds _ h2 ih => exact .opt _ c v ds (fun hc => ih hc hm) h2
  | lst m A c k l u h1 h2 h3 _ => exact .lst _ A c k l u h1 h2 h3
theorem Sees.free {U : Ex} {W : World} {m : List Loc} {v : Value} {d : Da} (h : Sees U W [] v d) : Sees U W m v d := h.lift fun b k h => by simp at h
theorem Sees.app {U : Ex} {W : World} {m m2 : List Loc} {v : Value} {d : Da} (h : Sees U W m v d) : Sees U W (m ++ m2) v d := h.lift fun b L hb => by
  rw [List.getElem?_append_left (List.getElem?_eq_some_iff.1 hb).1]; exact hb
theorem Da.shutL_at : ∀ {ds : List Da}, Da.shutL ds = true → ∀ (i : Nat) (d : Da), ds[i]? = some d → d.shut = true
  | d :: r, h, 0, e, he => by
    simp only [Da.shutL, Bool.and_eq_true] at h
    simp at he; subst he; exact h.1
  | d :: r, h, i + 1, e, he => by
    simp only [Da.shutL, Bool.and_eq_true] at h
    exact Da.shutL_at h.2 i e (by simpa using he)
theorem Da.flatL_at : ∀ {ds : List Da}, Da.flatL ds = true → ∀ (i : Nat) (d : Da), ds[i]? = some d → d.flat = true
  | d :: r, h, 0, e, he => by
    simp only [Da.flatL, Bool.and_eq_true] at h
    simp at he; subst he; exact h.1
  | d :: r, h, i + 1, e, he => by
    simp only [Da.flatL, Bool.and_eq_true] at h
    exact Da.flatL_at h.2 i e (by simpa using he)
theorem Sees.shut {U : Ex} {W : World} {m : List Loc} {v : Value} {d : Da} (h : Sees U W m v d) (hs : d.shut = true) : Sees U W [] v d := by
  induction h with
  | v m x => exact .v _ x
  | u8 m x => exact .u8 _ x
  | b m c => exact .b _ c
  | nb m c => exact .nb _ c
  | any m x => exact .any _ x
  | agg m vs ds h1 _ ih =>
    simp only [Da.shut] at hs
    exact .agg _ vs ds h1 fun i v d a b => ih i v d a b (Da.shutL_at hs i d b)
  | tup m vs ds h1 _ ih =>
    simp only [Da.shut] at hs
    exact .tup _ vs ds h1 fun i v d a b => ih i v d a b (Da.shutL_at hs i d b)
  | clo m fn fs cs df dc h1 _ h2 _ ih1 ih2 =>
    simp only [Da.shut, Bool.and_eq_true] at hs
    exact .clo _ fn fs cs df dc h1 (fun i v d a b => ih1 i v d a b (Da.shutL_at hs.1 i d b)) h2 (fun i v d a b => ih2 i v d a b (Da.shutL_at hs.2 i d b))
  | box => simp [Da.shut] at hs
  | sl => simp [Da.shut] at hs
  | elt => simp [Da.shut] at hs
  | emp m A => exact .emp _ A
  | ref m ad u ds h1 h2 _ => exact .ref _ ad u ds h1 h2
  | opt m c v ds _ h2 ih => exact .opt _ c v ds (fun hc => ih hc rfl) h2
  | lst m A c k l u h1 h2 h3 _ => exact .lst _ A c k l u h1 h2 h3
theorem Sees.flat {U U' : Ex} {W W' : World} {m m' : List Loc} {v : Value} {d : Da} (h : Sees U W m v d) (hs : d.flat = true) : Sees U' W' m' v d := by
  induction h with
  | v m x => exact .v _ x
  | u8 m x => exact .u8 _ x
  | b m c => exact .b _ c
  | nb m c => exact .nb _ c
  | any m x => exact .any _ x
  | agg m vs ds h1 _ ih =>
    simp only [Da.flat] at hs
    exact .agg _ vs ds h1 fun i v d a b => ih i v d a b (Da.flatL_at hs i d b)
  | tup m vs ds h1 _ ih =>
    simp only [Da.flat] at hs
    exact .tup _ vs ds h1 fun i v d a b => ih i v d a b (Da.flatL_at hs i d b)
  | clo m fn fs cs df dc h1 _ h2 _ ih1 ih2 =>
    simp only [Da.flat, Bool.and_eq_true] at hs
    exact .clo _ fn fs cs df dc h1 (fun i v d a b => ih1 i v d a b (Da.flatL_at hs.1 i d b)) h2 (fun i v d a b => ih2 i v d a b (Da.flatL_at hs.2 i d b))
  | emp m A => exact .emp _ A
  | _ => simp [Da.flat] at hs
theorem Sees.sl_inv {U : Ex} {W : World} {m : List Loc} {v : Value} {k : Kd} {b lo n : Nat} (h : Sees U W m v (.sl k b lo n)) : ∃ L A c, v = .slice A n c ∧ m[b]? = some L ∧ lo + n ≤ L.len ∧ n ≤ c ∧ lo + c = L.cap ∧ (0 < c → A = some ⟨L.blk, lo * wid k, none⟩) := by
  cases h with
  | sl _ _ _ _ _ L A c h1 h2 h3 h4 h5 => exact ⟨L, A, c, rfl, h1, h2, h3, h4, h5⟩
theorem Sees.elt_inv {U : Ex} {W : World} {m : List Loc} {v : Value} {k : Kd} {b i off : Nat} (h : Sees U W m v (.elt k b i off)) : ∃ L, v = .pointer (some ⟨L.blk, i * wid k + off, none⟩) ∧ m[b]? = some L ∧ i < L.len := by
  cases h with
  | elt _ _ _ _ _ L h1 h2 => exact ⟨L, rfl, h1, h2⟩
theorem Sees.box_inv {U : Ex} {W : World} {m : List Loc} {v : Value} {b off : Nat} (h : Sees U W m v (.box b off)) : ∃ L, v = .pointer (some ⟨L.blk, off, none⟩) ∧ m[b]? = some L := by
  cases h with
  | box _ _ _ L h1 => exact ⟨L, rfl, h1⟩
theorem Sees.v_inv {U : Ex} {W : World} {m : List Loc} {v x : Value} (h : Sees U W m v (.v x)) : v = x := by
  cases h; rfl
/-! ## What has turned -/
theorem Chg.refl (R : Ex) (w : World) : Chg R w w := ⟨rfl, rfl, rfl, Nat.le_refl _, fun _ _ _ => rfl⟩
theorem Chg.of_below {R : Ex} {w w' : World} (h : Below w.heap.size w w') : Chg R w w' := ⟨h.os, h.tape, h.output, h.size, fun k hk _ => h.block k hk⟩
theorem Chg.to_below {R : Ex} {w w' : World} (h : Chg R w w') (hR : ∀ k, k < w.heap.size → ¬ R k) : Below w.heap.size w w' := ⟨h.os, h.tape, h.output, h.size, fun k hk => h.block k hk (hR k hk)⟩
theorem Chg.trans {R R' : Ex} {a b c : World} (h : Chg R a b) (k : Chg R' b c) (hR : ∀ k, R' k → k < a.heap.size → R k) : Chg R a c :=
  ⟨k.os.trans h.os, k.tape.trans h.tape, k.output.trans h.output, Nat.le_trans h.size k.size, fun i hi hn => (k.block i (Nat.lt_of_lt_of_le hi h.size) fun hr => hn (hR i hr hi)).trans (h.block i hi hn)⟩
theorem Chg.alloc {R : Ex} {a b : World} (h : Chg R a b) (o : Obj) : Chg R a (b.alloc o) := by
  have hB : Below b.heap.size b (b.alloc o) := (Below.refl _ _).alloc (Nat.le_refl _) _
  exact ⟨hB.os.trans h.os, hB.tape.trans h.tape, hB.output.trans h.output, Nat.le_trans h.size hB.size, fun i hi hn => (hB.block i (Nat.lt_of_lt_of_le hi h.size)).trans (h.block i hi hn)⟩
theorem Chg.cell {R : Ex} {w w' : World} (h : Chg R w w') {ad : Addr} {u : Value} (hR : ¬ R ad.block) (hc : w.cell? ad = some u) : w'.cell? ad = some u := by
  have hlt := World.block_lt_of_cell? w ad hc
  have e := h.block ad.block hlt hR
  unfold World.cell? at hc ⊢
  rw [e]; exact hc
theorem Chg.setRow (w : World) (k : Nat) (cs : Array Value) : Chg (fun i => i = k) w (w.setRow k cs) := ⟨rfl, rfl, rfl, by simp, fun i _ hi => setRow_other w k i cs hi⟩
theorem Sees.chg {U U' R : Ex} {W W' : World} {m : List Loc} {v : Value} {d : Da} (h : Sees U W m v d) (hc : Chg R W W') (hR : ∀ k, R k → U k) (hU : ∀ k, k < W.heap.size → U' k → U k) : Sees U' W' m v d :=
  h.turn fun ad j u hu hcell => by
    have hlt := World.block_lt_of_cell? W _ hcell
    rw [addr_block] at hlt
    exact ⟨fun h => hu (hU _ hlt h), hc.cell (by rw [addr_block]; exact fun h => hu (hR _ h)) hcell⟩
theorem mem_foot {L : Loc} (h : L.on = true) : L.blk ∈ L.foot := by unfold Loc.foot; rw [h]; simp
theorem sub_foot {L : Loc} {k : Nat} (h : k ∈ L.sub) : k ∈ L.foot := by unfold Loc.foot; simp [h]
theorem Deep.chg {W W' : World} {k : Kd} {n : Nat} {cs : Array Value} {sub : List Nat} (h : Deep W k n cs sub) (hW : ∀ s ∈ sub, W'.heap[s]? = W.heap[s]?) : Deep W' k n cs sub := fun j k' hj => by
  obtain ⟨h1, h2, h3⟩ := h j k' hj
  refine ⟨h1, h2, fun i s hs => ?_⟩
  obtain ⟨A, q, c, g1, g2⟩ := h3 i s hs
  refine ⟨A, q, c, g1, fun hc => ?_⟩
  obtain ⟨g3, cs', ty, g4, g5⟩ := g2 hc
  exact ⟨g3, cs', ty, by rw [hW s (List.mem_of_getElem? hs)]; exact g4, g5⟩
/-- A variable of ours, its block unturned. -/
theorem BxOk.same {U U' : Ex} {W W' : World} {m m' : List Loc} {x : Bx} {L : Loc} (h : BxOk U W m x L) (hW : ∀ k ∈ L.foot, W'.heap[k]? = W.heap[k]?) (hS : ∀ (v : Value) (d : Da), Sees U W m v d → Sees U' W' m' v d) (hS0 : ∀ (v : Value) (d : Da), Sees U W [] v d → Sees U' W' [] v d) : BxOk U' W' m' x L := by
  obtain ⟨ty, c, fr, dp⟩ := x
  cases c with
  | cells ds =>
    obtain ⟨h1, cs, h2, h3, h4⟩ := h
    exact ⟨h1, cs, by rw [hW _ (mem_foot h1)]; exact h2, h3, fun j v d a b => hS _ _ (h4 j v d a b)⟩
  | list k l =>
    obtain ⟨h1, h2, h3, h4⟩ := h
    refine ⟨h1, h2, h3, fun hon => ?_⟩
    obtain ⟨cs, g1, g2, g3, g4⟩ := h4 hon
    refine ⟨cs, by rw [hW _ (mem_foot hon)]; exact g1, g2, fun i j e d a b => ?_, fun hd => (g4 hd).chg fun s hs => hW s (sub_foot hs)⟩
    obtain ⟨u, hu, hs⟩ := g3 i j e d a b
    exact ⟨u, hu, hS0 _ _ hs⟩
  | dead => trivial
theorem Bx.ren_live (f : Nat → Option Nat) (x : Bx) : (x.ren f).live = x.live := by
  obtain ⟨ty, c, fr, dp⟩ := x
  cases c <;> rfl
theorem BxOk.ren {U U' : Ex} {W : World} {m m' : List Loc} {x : Bx} {L : Loc} {f : Nat → Option Nat} {fr' : Bool} (h : BxOk U W m x L) (hU : ∀ k, U' k → U k) (hf : ∀ (b b' : Nat) (L : Loc), f b = some b' → m[b]? = some L → m'[b']? = some L) : BxOk U' W m' { (x.ren f) with fr := fr' } L := by
  obtain ⟨ty, c, fr, dp⟩ := x
  cases c with
  | cells ds =>
    obtain ⟨h1, cs, h2, h3, h4⟩ := h
    refine ⟨h1, cs, h2, by rw [Da.renL_len]; exact h3, fun j v d a b => ?_⟩
    rw [Da.renL_get, Option.map_eq_some_iff] at b
    obtain ⟨e, he, rfl⟩ := b
    exact ((h4 j v e a he).ren hf).sub hU
  | list k l =>
    obtain ⟨h1, h2, h3, h4⟩ := h
    refine ⟨h1, h2, h3, fun hon => ?_⟩
    obtain ⟨cs, g1, g2, g3, g4⟩ := h4 hon
    refine ⟨cs, g1, g2, fun i j e d a b => ?_, g4⟩
    obtain ⟨u, hu, hs⟩ := g3 i j e d a b
    exact ⟨u, hu, hs.sub hU⟩
  | dead => trivial
/-- Our variables under other names. -/
structure Remap (f : Nat → Option Nat) (s : Nat → Nat) (H : List Bx) (m : List Loc) (H' : List Bx) (m' : List Loc) : Prop where
  ml : m'.length = H'.length
  at_ : ∀ (p : Nat) (x' : Bx), H'[p]? = some x' → x'.live = true → ∃ x fr, H[s p]? = some x ∧ x.live = true ∧ m'[p]? = m[s p]? ∧ x' = { (x.ren f) with fr := fr } ∧ (fr = false → x.fr = false)
  inj : ∀ (p p' : Nat) (x x' : Bx), H'[p]? = some x → x.live = true → H'[p']? = some x' → x'.live = true → s p = s p' → p = p'
  f : ∀ (b b' : Nat) (L : Loc), f b = some b' → m[b]? = some L → m'[b']? = some L
section
variable {f : Nat → Option Nat} {s : Nat → Nat} {H H' : List Bx} {m m' : List Loc} {U0 : Ex} {W : World}
theorem Remap.mut (h : Remap f s H m H' m') : ∀ k, Mut H' m' k → Mut H m k := by
  rintro k ⟨b, x, L, h1, h2, h3, h4, h5, h6⟩
  obtain ⟨y, fr, g1, g2, g3, g4, g5⟩ := h.at_ b x h1 h2
  refine ⟨s b, y, L, g1, g2, g5 (by rw [g4] at h3; exact h3), by rw [← g3]; exact h4, h5, h6⟩
theorem Remap.uof (h : Remap f s H m H' m') : ∀ k, Uof U0 H' m' k → Uof U0 H m k := fun k hk => hk.imp id (h.mut k)
theorem Remap.sees (h : Remap f s H m H' m') {v : Value} {d : Da} (hs : Sees (Uof U0 H m) W m v d) : Sees (Uof U0 H' m') W m' v (d.ren f) := (hs.ren h.f).sub h.uof
theorem HI.remap (hi : HI U0 H m W) (h : Remap f s H m H' m') : HI U0 H' m' W := by
  refine ⟨h.ml, hi.ul, fun b x L h1 h2 h3 => ?_, fun b b' x x' L L' h1 h2 h3 h4 h5 h6 k hk hk' => ?_, fun b x L h1 h2 h3 => ?_, fun b x L h1 h3 => ?_⟩
  · obtain ⟨y, fr, g1, g2, g3, g4, g5⟩ := h.at_ b x h1 h2
    exact hi.lt (s b) y L g1 g2 (by rw [← g3]; exact h3)
  · obtain ⟨y, fr, g1, g2, g3, g4, g5⟩ := h.at_ b x h1 h2
    obtain ⟨y', fr', q1, q2, q3, q4, q5⟩ := h.at_ b' x' h4 h5
    exact h.inj b b' x x' h1 h2 h4 h5 (hi.dj _ _ y y' L L' g1 g2 (by rw [← g3]; exact h3) q1 q2 (by rw [← q3]; exact h6) k hk hk')
  · obtain ⟨y, fr, g1, g2, g3, g4, g5⟩ := h.at_ b x h1 h2
    exact hi.nd (s b) y L g1 g2 (by rw [← g3]; exact h3)
  · cases hl : x.live with
    | false =>
      obtain ⟨ty, c, fr, dp⟩ := x
      cases c <;> first | (cases hl; done) | trivial
    | true =>
      obtain ⟨y, fr, g1, g2, g3, g4, g5⟩ := h.at_ b x h1 hl
      have := hi.bx (s b) y L g1 (by rw [← g3]; exact h3)
      rw [g4]
      exact this.ren h.uof h.f
end
/-! ## What is written, what is new -/
theorem setAll_len : ∀ (l : List (Nat × Bx)) (H : List Bx), (setAll l H).length = H.length
  | [], _ => rfl
  | p :: r, H => by rw [setAll, setAll_len r, List.length_set]
theorem Eff.app_len (e : Eff) (H : List Bx) : (e.app H).length = H.length + e.nw.length := by unfold Eff.app; rw [List.length_append, setAll_len]
/-- A step of ours: what it does to our variables, seen from outside. -/
theorem Turned.refl {U0 : Ex} {H : List Bx} {m : List Loc} {W : World} (h : HI U0 H m W) : Turned U0 H m W H [] W := by
  refine ⟨by rw [List.append_nil]; exact h, Chg.refl _ _, fun b x L h1 h2 h3 k hk => .inr ⟨b, x, L, h1, h2, by simpa using h3, hk⟩, fun k hk => .inr (by rw [List.append_nil] at hk; exact hk)⟩
end Go.Proofs.YthlebalbiokjpaaGreat
namespace Go.Proofs.YthlebalbiokjpaaGreat
open Go.RowKit
set_option linter.unusedVariables false
set_option linter.unusedSimpArgs false

/-- A step: where each variable comes from. -/
structure Step (U0 : Ex) (H : List Bx) (m : List Loc) (W : World) (R : Ex) (H' : List Bx) (m2 : List Loc) (W' : World) : Prop where
  chg : Chg R W W'
  hR : ∀ k, R k → Mut H m k
  len : (m ++ m2).length = H'.length
  org : ∀ (p : Nat) (x' : Bx) (L : Loc), H'[p]? = some x' → x'.live = true → (m ++ m2)[p]? = some L → L.foot.Nodup ∧
    ((∃ (s : Nat) (x : Bx) (Ls : Loc), H[s]? = some x ∧ x.live = true ∧ m[s]? = some Ls ∧ (∀ k ∈ L.foot, k ∈ Ls.foot) ∧ (L.on = true → Ls.on = true ∧ Ls.blk = L.blk) ∧ (x'.fr = false → x.fr = false)) ∨ (∀ k ∈ L.foot, W.heap.size ≤ k ∧ k < W'.heap.size))
  dj : ∀ (p p' : Nat) (x x' : Bx) (L L' : Loc), p < p' → H'[p]? = some x → x.live = true → (m ++ m2)[p]? = some L → H'[p']? = some x' → x'.live = true → (m ++ m2)[p']? = some L' → ∀ k, k ∈ L.foot → k ∈ L'.foot → False
section
variable {U0 R : Ex} {H H' : List Bx} {m m2 : List Loc} {W W' : World}
theorem Step.mt (h : Step U0 H m W R H' m2 W') : ∀ k, Mut H' (m ++ m2) k → W.heap.size ≤ k ∨ Mut H m k := by
  rintro k ⟨b, x, L, h1, h2, h3, h4, h5, h6⟩
  obtain ⟨-, ⟨s, y, Ls, g1, g2, g3, g4, g5, g6⟩ | g⟩ := h.org b x L h1 h2 h4
  · obtain ⟨e1, e2⟩ := g5 h5
    exact .inr ⟨s, y, Ls, g1, g2, g6 h3, g3, e1, e2.trans h6⟩
  · exact .inl (g k (by rw [← h6]; exact mem_foot h5)).1
theorem Step.uof (h : Step U0 H m W R H' m2 W') : ∀ k, k < W.heap.size → Uof U0 H' (m ++ m2) k → Uof U0 H m k := fun k hk hu => hu.imp id fun hu => (h.mt k hu).resolve_left (by omega)
theorem Step.sees (h : Step U0 H m W R H' m2 W') {v : Value} {d : Da} (hs : Sees (Uof U0 H m) W m v d) : Sees (Uof U0 H' (m ++ m2)) W' (m ++ m2) v d :=
  (hs.app).chg h.chg (fun k hk => .inr (h.hR k hk)) h.uof
theorem Step.sees0 (h : Step U0 H m W R H' m2 W') {v : Value} {d : Da} (hs : Sees (Uof U0 H m) W [] v d) : Sees (Uof U0 H' (m ++ m2)) W' [] v d :=
  hs.chg h.chg (fun k hk => .inr (h.hR k hk)) h.uof
theorem Step.same (h : Step U0 H m W R H' m2 W') {x : Bx} {L : Loc} (hx : BxOk (Uof U0 H m) W m x L) (hL : ∀ k ∈ L.foot, k < W.heap.size ∧ ¬ R k) : BxOk (Uof U0 H' (m ++ m2)) W' (m ++ m2) x L :=
  hx.same (fun k hk => h.chg.block k (hL k hk).1 (hL k hk).2) (fun _ _ => h.sees) (fun _ _ => h.sees0)
theorem Step.turned (h : Step U0 H m W R H' m2 W') (hi : HI U0 H m W) (hb : ∀ (p : Nat) (x' : Bx) (L : Loc), H'[p]? = some x' → x'.live = true → (m ++ m2)[p]? = some L → BxOk (Uof U0 H' (m ++ m2)) W' (m ++ m2) x' L) : Turned U0 H m W H' m2 W' := by
  refine ⟨⟨h.len, fun k hk => Nat.lt_of_lt_of_le (hi.ul k hk) h.chg.size, fun b x L h1 h2 h3 k hk => ?_, fun b b' x x' L L' h1 h2 h3 h4 h5 h6 k hk hk' => ?_, fun b x L h1 h2 h3 => (h.org b x L h1 h2 h3).1, fun b x L h1 h3 => ?_⟩, ?_, fun b x L h1 h2 h3 k hk => ?_, h.mt⟩
  · obtain ⟨-, ⟨s, y, Ls, g1, g2, g3, g4, g5, g6⟩ | g⟩ := h.org b x L h1 h2 h3
    · have := hi.lt s y Ls g1 g2 g3 k (g4 k hk)
      exact ⟨Nat.lt_of_lt_of_le this.1 h.chg.size, this.2⟩
    · have := g k hk
      exact ⟨this.2, fun hu => by have := hi.ul k hu; omega⟩
  · rcases Nat.lt_trichotomy b b' with hlt | he | hlt
    · exact (h.dj b b' x x' L L' hlt h1 h2 h3 h4 h5 h6 k hk hk').elim
    · exact he
    · exact (h.dj b' b x' x L' L hlt h4 h5 h6 h1 h2 h3 k hk' hk).elim
  · cases hl : x.live with
    | false =>
      obtain ⟨ty, c, fr, dp⟩ := x
      cases c <;> first | (cases hl; done) | trivial
    | true => exact hb b x L h1 hl h3
  · exact ⟨h.chg.os, h.chg.tape, h.chg.output, h.chg.size, fun k hk hn => h.chg.block k hk fun hr => hn (h.hR k hr)⟩
  · obtain ⟨-, ⟨s, y, Ls, g1, g2, g3, g4, g5, g6⟩ | g⟩ := h.org b x L h1 h2 h3
    · exact .inr ⟨s, y, Ls, g1, g2, g3, g4 k hk⟩
    · exact .inl (g k hk).1
end
/-- More is frozen; nothing else. -/
structure Frz (H H' : List Bx) : Prop where
  len : H'.length = H.length
  at_ : ∀ (b : Nat) (x' : Bx), H'[b]? = some x' → ∃ x, H[b]? = some x ∧ x' = { x with fr := x'.fr } ∧ (x'.fr = false → x.fr = false)
theorem Frz.refl (H : List Bx) : Frz H H := ⟨rfl, fun b x h => ⟨x, h, rfl, id⟩⟩
theorem frz_one {H : List Bx} {b : Nat} {x : Bx} (hb : H[b]? = some x) : Frz H (H.set b x.freeze) := by
  refine ⟨by simp, fun c y hy => ?_⟩
  rw [List.getElem?_set] at hy
  split at hy
  · rename_i e
    subst e
    split at hy <;> cases hy
    exact ⟨x, hb, rfl, fun e => (by cases e)⟩
  · exact ⟨y, hy, rfl, id⟩
theorem Frz.trans {A B C : List Bx} (h : Frz A B) (k : Frz B C) : Frz A C := ⟨k.len.trans h.len, fun b x hx => by
  obtain ⟨y, h1, h2, h3⟩ := k.at_ b x hx
  obtain ⟨z, g1, g2, g3⟩ := h.at_ b y h1
  exact ⟨z, g1, by rw [h2, g2], fun e => g3 (h3 e)⟩⟩
theorem Frz.live {H H' : List Bx} (h : Frz H H') {b : Nat} {x' : Bx} (hx : H'[b]? = some x') : ∃ x, H[b]? = some x ∧ x'.live = x.live ∧ (x'.fr = false → x.fr = false) ∧ x' = { x with fr := x'.fr } := by
  obtain ⟨x, h1, h2, h3⟩ := h.at_ b x' hx
  exact ⟨x, h1, by rw [h2]; rfl, h3, h2⟩
theorem frz_set {H : List Bx} : ∀ (fz : List Nat) (G : List Bx), Frz H G → Frz H (setAll (frzE H fz) G)
  | [], G, h => h
  | b :: r, G, h => by
    unfold frzE
    simp only [List.filterMap_cons]
    cases hb : H[b]? with
    | none => exact frz_set r G h
    | some x =>
      simp only [setAll]
      refine frz_set r _ ⟨by rw [List.length_set]; exact h.len, fun c y hy => ?_⟩
      rw [List.getElem?_set] at hy
      split at hy
      · rename_i e
        subst e
        split at hy <;> cases hy
        exact ⟨x, hb, rfl, fun e => (by cases e)⟩
      · exact h.at_ c y hy
theorem frz_frzE (H : List Bx) (fz : List Nat) : Frz H (setAll (frzE H fz) H) := frz_set fz H (Frz.refl H)
theorem frzE_mem {H : List Bx} : ∀ (fz : List Nat) (G : List Bx) (b : Nat), (∀ y, G[b]? = some y → b ∈ fz ∨ y.fr = true) → ∀ x, H[b]?.isSome = true → (setAll (frzE H fz) G)[b]? = some x → x.fr = true
  | [], G, b, h, x, hs, hx => by
    have := h x hx
    simpa using this
  | c :: r, G, b, h, x, hs, hx => by
    unfold frzE at hx
    simp only [List.filterMap_cons] at hx
    cases hc : H[c]? with
    | none =>
      rw [hc] at hx
      refine frzE_mem r G b (fun y hy => ?_) x hs hx
      rcases h y hy with h1 | h1
      · rcases List.mem_cons.1 h1 with e | h1
        · subst e; rw [hc] at hs; cases hs
        · exact .inl h1
      · exact .inr h1
    | some z =>
      rw [hc] at hx
      simp only [setAll] at hx
      refine frzE_mem r _ b (fun y hy => ?_) x hs hx
      rw [List.getElem?_set] at hy
      split at hy
      · split at hy <;> cases hy
        exact .inr rfl
      · rename_i hne
        rcases h y hy with h1 | h1
        · rcases List.mem_cons.1 h1 with e | h1
          · exact absurd e.symm hne
          · exact .inl h1
        · exact .inr h1
section
variable {U0 : Ex} {H H' : List Bx} {m : List Loc} {W W' : World}
theorem Frz.mut (h : Frz H H') : ∀ k, Mut H' m k → Mut H m k := by
  rintro k ⟨b, x, L, h1, h2, h3, h4⟩
  obtain ⟨y, g1, g2, g3, -⟩ := h.live h1
  exact ⟨b, y, L, g1, by rw [← g2]; exact h2, g3 h3, h4⟩
theorem Frz.uof (h : Frz H H') : ∀ k, Uof U0 H' m k → Uof U0 H m k := fun k hk => hk.imp id (h.mut k)
theorem HI.frz (hi : HI U0 H m W) (h : Frz H H') : HI U0 H' m W := by
  refine ⟨hi.ml.trans h.len.symm, hi.ul, fun b x L h1 h2 h3 => ?_, fun b b' x x' L L' h1 h2 h3 h4 h5 h6 => ?_, fun b x L h1 h2 h3 => ?_, fun b x L h1 h3 => ?_⟩
  · obtain ⟨y, g1, g2, g3, g4⟩ := h.live h1
    exact hi.lt b y L g1 (by rw [← g2]; exact h2) h3
  · obtain ⟨y, g1, g2, g3, g4⟩ := h.live h1
    obtain ⟨y', q1, q2, q3, q4⟩ := h.live h4
    exact hi.dj b b' y y' L L' g1 (by rw [← g2]; exact h2) h3 q1 (by rw [← q2]; exact h5) h6
  · obtain ⟨y, g1, g2, g3, g4⟩ := h.live h1
    exact hi.nd b y L g1 (by rw [← g2]; exact h2) h3
  · obtain ⟨y, g1, g2, g3, g4⟩ := h.live h1
    have := hi.bx b y L g1 h3
    rw [g4]
    exact this.same (m' := m) (U' := Uof U0 H' m) (fun _ _ => rfl) (fun _ _ hs => hs.sub h.uof) (fun _ _ hs => hs.sub h.uof)
/-- Time goes by, and nothing of ours is turned. -/
theorem HI.grow (hi : HI U0 H m W) (hB : Below W.heap.size W W') : HI U0 H m W' := by
  have hS : ∀ {m : List Loc} (v : Value) (d : Da), Sees (Uof U0 H m) W m v d → Sees (Uof U0 H m) W' m v d := fun v d hs => hs.chg (Chg.of_below (R := fun _ => False) hB) (fun _ h => h.elim) (fun _ _ h => h)
  refine ⟨hi.ml, fun k hk => Nat.lt_of_lt_of_le (hi.ul k hk) hB.size, fun b x L h1 h2 h3 k hk => ?_, hi.dj, hi.nd, fun b x L h1 h3 => ?_⟩
  · have := hi.lt b x L h1 h2 h3 k hk
    exact ⟨Nat.lt_of_lt_of_le this.1 hB.size, this.2⟩
  · cases hl : x.live with
    | false =>
      obtain ⟨ty, c, fr, dp⟩ := x
      cases c <;> first | (cases hl; done) | trivial
    | true =>
      exact (hi.bx b x L h1 h3).same (fun k hk => hB.block k (hi.lt b x L h1 hl h3 k hk).1) (fun v d hs => hS v d hs) (fun v d hs => hs.chg (Chg.of_below (R := fun _ => False) hB) (fun _ h => h.elim) (fun _ _ h => h))
theorem Sees.grow {U : Ex} {v : Value} {d : Da} (h : Sees U W m v d) (hB : Below W.heap.size W W') : Sees U W' m v d := h.chg (Chg.of_below (R := fun _ => False) hB) (fun _ h => h.elim) (fun _ _ h => h)
/-- Something was read and frozen; memory grew. -/
theorem HI.quiet (hi : HI U0 H m W) (h : Frz H H') (hB : Below W.heap.size W W') : Turned U0 H m W H' [] W' := by
  refine ⟨by rw [List.append_nil]; exact (hi.frz h).grow hB, Chg.of_below hB, fun b x L h1 h2 h3 k hk => ?_, fun k hk => ?_⟩
  · obtain ⟨y, g1, g2, g3, g4⟩ := h.live h1
    exact .inr ⟨b, y, L, g1, by rw [← g2]; exact h2, by simpa using h3, hk⟩
  · rw [List.append_nil] at hk
    exact .inr (h.mut k hk)
end
/-- One step behind another. -/
theorem Turned.trans {U0 : Ex} {H H1 H2 : List Bx} {m m1 m2 : List Loc} {w w1 w2 : World} (h : Turned U0 H m w H1 m1 w1) (k : Turned U0 H1 (m ++ m1) w1 H2 m2 w2) : Turned U0 H m w H2 (m1 ++ m2) w2 := by
  refine ⟨by rw [← List.append_assoc]; exact k.hi, h.chg.trans k.chg (fun i hi hlt => (h.mt i hi).resolve_left (by omega)), fun b x L h1 h2 h3 i hi => ?_, fun i hi => ?_⟩
  · rw [← List.append_assoc] at h3
    rcases k.new b x L h1 h2 h3 i hi with g | ⟨b', x', L', g1, g2, g3, g4⟩
    · exact .inl (Nat.le_trans h.chg.size g)
    · exact h.new b' x' L' g1 g2 g3 i g4
  · rw [← List.append_assoc] at hi
    rcases k.mt i hi with g | g
    · exact .inl (Nat.le_trans h.chg.size g)
    · exact h.mt i g
/-! ## Variables hidden -/
theorem maskI_get (q : List Nat) : ∀ (H : List Bx) (i j : Nat), (maskI q i H)[j]? = (H[j]?).map fun x => if q.contains (i + j) then x else Bx.gone
  | [], i, j => by simp [maskI]
  | x :: r, i, 0 => by simp [maskI]
  | x :: r, i, j + 1 => by rw [maskI, List.getElem?_cons_succ, List.getElem?_cons_succ, maskI_get q r, show i + 1 + j = i + (j + 1) from by omega]
theorem maskI_len (q : List Nat) : ∀ (H : List Bx) (i : Nat), (maskI q i H).length = H.length
  | [], _ => rfl
  | x :: r, i => by rw [maskI, List.length_cons, List.length_cons, maskI_len q r]
/-- What is not to be turned, where only these variables are seen. -/
def Hid (U0 : Ex) (q : List Nat) (H : List Bx) (m : List Loc) : Ex := fun k => U0 k ∨ ∃ (b : Nat) (x : Bx) (L : Loc), q.contains b = false ∧ H[b]? = some x ∧ x.live = true ∧ x.fr = false ∧ m[b]? = some L ∧ L.on = true ∧ L.blk = k
section
variable {U0 : Ex} {q : List Nat} {H H' : List Bx} {m m2 : List Loc} {W W' : World}
theorem mask_at {b : Nat} {x : Bx} (h : (maskI q 0 H)[b]? = some x) (hl : x.live = true) : q.contains b = true ∧ H[b]? = some x := by
  rw [maskI_get, Option.map_eq_some_iff] at h
  obtain ⟨y, hy, e⟩ := h
  rw [Nat.zero_add] at e
  split at e
  · rename_i hc; subst e; exact ⟨hc, hy⟩
  · subst e; cases hl
theorem hid_uof : ∀ k, Uof (Hid U0 q H m) (maskI q 0 H) m k ↔ Uof U0 H m k := by
  intro k
  constructor
  · rintro ((h | ⟨b, x, L, -, h⟩) | ⟨b, x, L, h1, h2, h3⟩)
    · exact .inl h
    · exact .inr ⟨b, x, L, h⟩
    · exact .inr ⟨b, x, L, (mask_at h1 h2).2, h2, h3⟩
  · rintro (h | ⟨b, x, L, h1, h2, h3⟩)
    · exact .inl (.inl h)
    · cases hq : q.contains b with
      | false => exact .inl (.inr ⟨b, x, L, hq, h1, h2, h3⟩)
      | true =>
        have hm : (maskI q 0 H)[b]? = some x := by rw [maskI_get, h1, Option.map_some, Nat.zero_add, if_pos hq]
        exact .inr ⟨b, x, L, hm, h2, h3⟩
theorem uof_eq {A B : Ex} (h : ∀ k, A k ↔ B k) : A = B := funext fun k => propext (h k)
theorem HI.mask (hi : HI U0 H m W) : HI (Hid U0 q H m) (maskI q 0 H) m W := by
  refine ⟨by rw [maskI_len]; exact hi.ml, ?_, fun b x L h1 h2 h3 k hk => ?_, fun b b' x x' L L' h1 h2 h3 h4 h5 h6 => ?_, fun b x L h1 h2 h3 => ?_, fun b x L h1 h3 => ?_⟩
  · rintro k (h | ⟨b, x, L, -, h1, h2, h3, h4, h5, h6⟩)
    · exact hi.ul k h
    · exact (hi.lt b x L h1 h2 h4 k (by rw [← h6]; exact mem_foot h5)).1
  · obtain ⟨hc, hb⟩ := mask_at h1 h2
    have := hi.lt b x L hb h2 h3 k hk
    refine ⟨this.1, ?_⟩
    rintro (h | ⟨b', x', L', g0, g1, g2, g3, g4, g5, g6⟩)
    · exact this.2 h
    · have := hi.dj b b' x x' L L' hb h2 h3 g1 g2 g4 k hk (by rw [← g6]; exact mem_foot g5)
      subst this
      rw [hc] at g0; cases g0
  · exact hi.dj b b' x x' L L' (mask_at h1 h2).2 h2 h3 (mask_at h4 h5).2 h5 h6
  · exact hi.nd b x L (mask_at h1 h2).2 h2 h3
  · cases hl : x.live with
    | false =>
      obtain ⟨ty, c, fr, dp⟩ := x
      cases c <;> first | (cases hl; done) | trivial
    | true =>
      rw [uof_eq hid_uof]
      exact hi.bx b x L (mask_at h1 hl).2 h3
/-- A step with some variables hidden is one with them in sight: they stay as they were. -/
theorem Turned.unmask (hi : HI U0 H m W) (h : Turned (Hid U0 q H m) (maskI q 0 H) m W H' m2 W') {H2 : List Bx} (hl : H2.length = H'.length)
    (hs : ∀ (b : Nat) (x : Bx), H2[b]? = some x → x.live = true → (H'[b]? = some x ∧ (b < H.length → q.contains b = true)) ∨ (H[b]? = some x ∧ q.contains b = false)) (hs2 : ∀ (b : Nat) (x : Bx), H'[b]? = some x → x.live = true → b < H.length → q.contains b = true) :
    Turned U0 H m W H2 m2 W' ∧ (∀ k, Uof U0 H2 (m ++ m2) k → Uof (Hid U0 q H m) H' (m ++ m2) k) := by
  have hml := hi.ml
  have hlt : ∀ b (x : Bx), H[b]? = some x → b < m.length := fun b x hb => by rw [hml]; exact (List.getElem?_eq_some_iff.1 hb).1
  have hleft : ∀ b (x : Bx) (L : Loc), H[b]? = some x → (m ++ m2)[b]? = some L → m[b]? = some L := fun b x L hb h => by
    rw [List.getElem?_append_left (hlt b x hb)] at h; exact h
  -- a hidden variable's block is not turned
  have hkept : ∀ b (x : Bx) (L : Loc), H[b]? = some x → x.live = true → m[b]? = some L → q.contains b = false → ∀ k ∈ L.foot, k < W.heap.size ∧ ¬ Mut (maskI q 0 H) m k := fun b x L h1 h2 h3 h4 k hk => by
    refine ⟨(hi.lt b x L h1 h2 h3 k hk).1, ?_⟩
    rintro ⟨b', x', L', g1, g2, g3, g4, g5, g6⟩
    obtain ⟨c1, c2⟩ := mask_at g1 g2
    have := hi.dj b b' x x' L L' h1 h2 h3 c2 g2 g4 k hk (by rw [← g6]; exact mem_foot g5)
    subst this
    rw [h4] at c1; cases c1
  have hU : ∀ k, Uof U0 H2 (m ++ m2) k → Uof (Hid U0 q H m) H' (m ++ m2) k := by
    rintro k (h1 | ⟨b, x, L, h1, h2, h3, h4, h5, h6⟩)
    · exact .inl (.inl h1)
    · rcases hs b x h1 h2 with ⟨g, -⟩ | ⟨g, gq⟩
      · exact .inr ⟨b, x, L, g, h2, h3, h4, h5, h6⟩
      · exact .inl (.inr ⟨b, x, L, gq, g, h2, h3, hleft b x L g h4, h5, h6⟩)
  have cross : ∀ b (x : Bx) (L : Loc) b' (x' : Bx) (L' : Loc), H[b]? = some x → x.live = true → m[b]? = some L → q.contains b = false → H'[b']? = some x' → x'.live = true → (m ++ m2)[b']? = some L' → ∀ k, k ∈ L.foot → k ∈ L'.foot → False := fun b x L b' x' L' h1 h2 h3 h4 g1 g2 g3 k hk hk' => by
    have hklt := (hi.lt b x L h1 h2 h3 k hk).1
    rcases h.new b' x' L' g1 g2 g3 k hk' with g | ⟨b2, x2, L2, e1, e2, e3, e4⟩
    · omega
    · obtain ⟨c1, c2⟩ := mask_at e1 e2
      have := hi.dj b b2 x x2 L L2 h1 h2 h3 c2 e2 e3 k hk e4
      subst this
      rw [h4] at c1; cases c1
  refine ⟨⟨⟨h.hi.ml.trans hl.symm, fun k hk => h.hi.ul k (.inl hk), fun b x L h1 h2 h3 k hk => ?_, fun b b' x x' L L' h1 h2 h3 h4 h5 h6 k hk hk' => ?_, fun b x L h1 h2 h3 => ?_, fun b x L h1 h3 => ?_⟩, ?_, fun b x L h1 h2 h3 k hk => ?_, fun k hk => ?_⟩, hU⟩
  · rcases hs b x h1 h2 with ⟨g, -⟩ | ⟨g, gq⟩
    · have := h.hi.lt b x L g h2 h3 k hk
      exact ⟨this.1, fun hu => this.2 (.inl hu)⟩
    · have := hi.lt b x L g h2 (hleft b x L g h3) k hk
      exact ⟨Nat.lt_of_lt_of_le this.1 h.chg.size, this.2⟩
  · rcases hs b x h1 h2 with ⟨g, -⟩ | ⟨g, gq⟩ <;> rcases hs b' x' h4 h5 with ⟨g', -⟩ | ⟨g', gq'⟩
    · exact h.hi.dj b b' x x' L L' g h2 h3 g' h5 h6 k hk hk'
    · exact (cross b' x' L' b x L g' h5 (hleft _ _ _ g' h6) gq' g h2 h3 k hk' hk).elim
    · exact (cross b x L b' x' L' g h2 (hleft _ _ _ g h3) gq g' h5 h6 k hk hk').elim
    · exact hi.dj b b' x x' L L' g h2 (hleft _ _ _ g h3) g' h5 (hleft _ _ _ g' h6) k hk hk'
  · rcases hs b x h1 h2 with ⟨g, -⟩ | ⟨g, gq⟩
    · exact h.hi.nd b x L g h2 h3
    · exact hi.nd b x L g h2 (hleft _ _ _ g h3)
  · cases hlv : x.live with
    | false =>
      obtain ⟨ty, c, fr, dp⟩ := x
      cases c <;> first | (cases hlv; done) | trivial
    | true =>
      rcases hs b x h1 hlv with ⟨g, -⟩ | ⟨g, gq⟩
      · exact (h.hi.bx b x L g h3).same (fun _ _ => rfl) (fun _ _ hs => hs.sub hU) (fun _ _ hs => hs.sub hU)
      · have h3' := hleft _ _ _ g h3
        have hk := hkept b x L g hlv h3' gq
        have tr : ∀ {m m' : List Loc} (hm : ∀ (b : Nat) (L : Loc), m[b]? = some L → m'[b]? = some L) (v : Value) (d : Da), Sees (Uof U0 H (m := m)) W m v d → True := fun _ _ _ _ => trivial
        refine (hi.bx b x L g h3').same (fun k hk' => h.chg.block k (hk k hk').1 (hk k hk').2) (fun v d hs => ?_) (fun v d hs => ?_)
        · refine (hs.app (m2 := m2)).chg h.chg (fun k hk => (hid_uof (q := q) k).1 (.inr hk)) (fun k hk hu => ?_)
          rcases hU k hu with g | g
          · exact (hid_uof (q := q) k).1 (.inl g)
          · exact (hid_uof (q := q) k).1 (.inr ((h.mt k g).resolve_left (by omega)))
        · refine hs.chg h.chg (fun k hk => (hid_uof (q := q) k).1 (.inr hk)) (fun k hk hu => ?_)
          rcases hU k hu with g | g
          · exact (hid_uof (q := q) k).1 (.inl g)
          · exact (hid_uof (q := q) k).1 (.inr ((h.mt k g).resolve_left (by omega)))
  · refine ⟨h.chg.os, h.chg.tape, h.chg.output, h.chg.size, fun k hk hn => h.chg.block k hk fun hm => hn ?_⟩
    obtain ⟨b, x, L, h1, h2, h3⟩ := hm
    exact ⟨b, x, L, (mask_at h1 h2).2, h2, h3⟩
  · rcases hs b x h1 h2 with ⟨g, -⟩ | ⟨g, gq⟩
    · rcases h.new b x L g h2 h3 k hk with g2 | ⟨b', x', L', e1, e2, e3, e4⟩
      · exact .inl g2
      · exact .inr ⟨b', x', L', (mask_at e1 e2).2, e2, e3, e4⟩
    · exact .inr ⟨b, x, L, g, h2, hleft _ _ _ g h3, hk⟩
  · obtain ⟨b, x, L, h1, h2, h3, h4, h5, h6⟩ := hk
    rcases hs b x h1 h2 with ⟨g, -⟩ | ⟨g, gq⟩
    · rcases h.mt k ⟨b, x, L, g, h2, h3, h4, h5, h6⟩ with g2 | ⟨b', x', L', e1, e2, e3⟩
      · exact .inl g2
      · exact .inr ⟨b', x', L', (mask_at e1 e2).2, e2, e3⟩
    · exact .inr ⟨b, x, L, g, h2, h3, hleft _ _ _ g h4, h5, h6⟩
end
end Go.Proofs.YthlebalbiokjpaaGreat
