/- Flows: append, Clone, ends that are right, find. -/
import Derived.Test.YtdenjmdngmmodaaFlP
import Derived.Deep.Cut
import Derived.ArgAppend
import Derived.Lib.SliceRun
namespace Go.Proofs.Ytdenjmdngmmodaa
open Go.RowKit
set_option linter.unusedVariables false
set_option linter.unusedSimpArgs false
set_option maxRecDepth 200000
set_option maxHeartbeats 1000000

theorem append_fl (w : World) (base : Nat) (v : Value) (l : List Fl) (hown : w.ownsRow base 73 9 v l.length (rowC flc l)) (A : Option Addr) (c : Nat) (ns : List Fl) (hr : Rd w A (rowC flc ns)) (h : l.length + ns.length ≤ 1000000) (hb : base ≤ w.heap.size) :
    ∃ v' w', (Builtin.append_ #[64, 64] 64 #[v, .slice A ns.length c]).run Try.prog w = .ok v' w' ∧ w'.ownsRow base 73 9 v' (l ++ ns).length (rowC flc (l ++ ns)) ∧ w.grownBy w' v.ownBlock := by
  obtain ⟨i, hi, hz, hs, hby⟩ := info_parts info_fl
  obtain ⟨v', w', h1, h2, h3, _⟩ := run_append_rd (P := Try.prog) w base 64 64 73 i _ 9 80 Try.underlying64 hi hz hs hby rfl (by omega) v l.length (rowC flc l) hown A ns.length c (rowC flc ns) (rowC_len flc_len ns) hr
    (rowC_one flc_one ns) (by simp only [maxLen]; omega) (by omega) hb
  exact ⟨v', w', h1, by rw [List.length_append, rowC_app]; exact h2, h3⟩
/-- A new list of no flows. -/
theorem own_none (w : World) : (w.alloc (.cells #[] 73)).ownsRow w.heap.size 73 9 (.slice (some ⟨w.heap.size, 0, none⟩) 0 0) ([] : List Fl).length (rowC flc []) := World.ownsRow_lit w #[] 0 (Nat.le_refl _) (by simp [maxLen]) (by simp)
/-- append to a new list of no flows: what is new lies in new blocks. -/
theorem append_new (w : World) (B b : Nat) (hb : w.heap[b]? = some (.cells #[] 73 (0, 0))) (hB : B ≤ b) (A : Option Addr) (c : Nat) (l : List Fl) (hr : Rd w A (rowC flc l)) (hl : l.length ≤ 100000) :
    ∃ v' w', (Builtin.append_ #[64, 64] 64 #[.slice (some ⟨b, 0, none⟩) 0 0, .slice A l.length c]).run Try.prog w = .ok v' w' ∧ w'.ownsRow B 73 9 v' l.length (rowC flc l) ∧ LeB w w' := by
  obtain ⟨i, hi, hz, hs, hby⟩ := info_parts info_fl
  have hbl := (Array.getElem?_eq_some_iff.1 hb).1
  by_cases hn : l = []
  · subst hn
    refine ⟨.slice (some ⟨b, 0, none⟩) 0 0, w, ?_, ⟨rfl, .inr ⟨b, 0, #[], rfl, hB, hb, Nat.le_refl _, by simp [maxLen], rfl, rfl⟩⟩, Below.refl _ _⟩
    cases A with
    | none => simp [Builtin.append_, run_underlying Try.underlying64, sizeOf, typeInfo, hi, Builtin.lenOf, Builtin.firstCells, storeCells]
    | some ad =>
      have hrun := run_append_room_cells (P := Try.prog) w 64 64 73 i Try.underlying64 hi b 0 0 0 ad 0 c [] (by simp) (by intro j u hu; simp at hu) (by simp) (by omega) (by simp) (by simp)
      have e : w.setCells b (0 + 0 * i.size) [] = w := rfl
      rw [e] at hrun
      simpa using hrun
  · obtain ⟨ad, rfl, q⟩ := row_at flc_len (by omega) hr 0 (List.length_pos_iff.2 hn)
    have hpos : 0 < l.length := List.length_pos_iff.2 hn
    obtain ⟨v', w', hrun, hown, hg⟩ := run_append_arg_grows (P := Try.prog) w 64 64 73 i _ 9 80 Try.underlying64 hi hz hs hby rfl (by omega) ⟨b, 0, none⟩ 0 0 [] rfl (fun j u hu => by simp at hu) ad l.length c (rowC flc l) (rowC_len flc_len l) (fun j u hu => by
        obtain ⟨ad', e1, h⟩ := hr j u hu
        cases e1
        exact h) (by omega) (by simp only [maxLen]; omega) (by omega)
    rw [Nat.zero_add, List.nil_append] at hown
    exact ⟨v', w', hrun, own_base hown (by omega), ⟨hg.os, hg.tape, hg.output, hg.size, fun k hk => hg.block k hk (by simp)⟩⟩
theorem Clone_ok (A : Option Addr) (c : Nat) (l : List Fl) (hl : l.length ≤ 100000) (w : World) (hr : Rd w A (rowC flc l)) :
    Calls Try.prog 86 #[.slice A l.length c] w fun e w' => ∃ v, e = .returned v ∧ w'.ownsRow w.heap.size 73 9 v l.length (rowC flc l) ∧ LeB w w' := by
  have q64 : ∀ (w : World) (a : Option Addr) (n c n' c' : Nat), (binOp .eql 64 (.slice a n c) (.slice none n' c')).run Try.prog w = .ok (.bool a.isNone) w := fun w a n c n' c' => Lib.run_eql_slice_nil w _ _ a n c n' c' Try.underlying64
  cases A with
  | none =>
    have h0 : l = [] := by
      cases l with
      | nil => rfl
      | cons x r => obtain ⟨ad, e, _⟩ := row_at flc_len (by omega) hr 0 (by simp); cases e
    subst h0
    clear hr hl
    go_enter Try.func86, Try.ntmps86
    go_wp2
    go_ret
    exact ⟨_, rfl, ⟨rfl, .inl ⟨rfl, rfl⟩⟩, Below.refl _ _⟩
  | some ad =>
    have HR := Lib.hid hr
    clear hr
    have hB0 : LeB w (w.alloc (.cells #[] 73)) := (Below.refl _ _).alloc (Nat.le_refl _) _
    obtain ⟨v3, w3, hrun, hown3, hB3⟩ := append_new _ w.heap.size w.heap.size (heap_alloc_new _ _) (Nat.le_refl _) (some ad) c l (HR.out.below hB0 (Nat.le_refl _)) hl
    have H3 := Lib.hid (And.intro hown3 (LeB.tr hB0 hB3))
    have HRUN := Lib.hid hrun
    clear hB0 hrun hown3 hB3
    go_enter Try.func86, Try.ntmps86
    go_wp2_with (at_builtin; refine Hid.out ?_)
    refine Lib.hid ?_
    refine wpList_append_run rfl _ _ _ _ rfl rfl rfl HRUN.out ?_
    go_wp2_with fail
    go_ret
    exact ⟨_, rfl, H3.out.1, H3.out.2⟩
theorem endsOK_ok (f : Fl) (hf : FlOK f) (ad : Addr) (w : World) (h : FlAt w ad f) : Calls Try.prog 90 #[.pointer (some ad)] w fun e w' => e = .returned (.bool true) ∧ w = w' := by
  obtain ⟨c0, c1, c2, c3, c4, c5, c6, c7, c8⟩ := h
  have HF := Lib.hid hf
  have hm : ((f.mac.size : Int) == 6) = true := by rw [hf.mac]; rfl
  have ho : decide ((0 : Int) ≤ f.own ∧ (f.own : Int) ≤ 10000) = true := by have := hf.own; simp; omega
  clear hf
  go_enter Try.func90, Try.ntmps90
  go_wp2_with fail
  refine (isProto_ok f.proto HF.out.proto _).mono ?_
  rintro e w1 ⟨rfl, rfl⟩
  go_wp2_with fail
  refine (macOK_ok f.mac _).mono ?_
  rintro e w1 ⟨rfl, rfl⟩
  rw [hm]
  go_wp2_with fail
  refine (isAddress_ok f.sip HF.out.sip _).mono ?_
  rintro e w1 ⟨rfl, rfl⟩
  go_wp2_with fail
  refine (isAddress_ok f.dip HF.out.dip _).mono ?_
  rintro e w1 ⟨rfl, rfl⟩
  go_wp2_with fail
  refine (isPort_ok f.sport HF.out.sport _).mono ?_
  rintro e w1 ⟨rfl, rfl⟩
  go_wp2_with fail
  refine (isPort_ok f.dport HF.out.dport _).mono ?_
  rintro e w1 ⟨rfl, rfl⟩
  go_wp2_with fail
  refine (within_ok _ _ _ _).mono ?_
  rintro e w1 ⟨rfl, rfl⟩
  rw [ho]
  go_wp2_with fail
  go_ret
  exact ⟨rfl, rfl⟩
/-- The five ends that a function value of find looks at, in five blocks of their own. -/
structure EndsAt (w : World) (x1 x2 x3 x4 x5 : Nat) (p a ap b bp : Nat) : Prop where
  e1 : w.cell? ⟨x1, 0, none⟩ = some (.int .i64 p)
  e2 : w.cell? ⟨x2, 0, none⟩ = some (.int .i64 a)
  e3 : w.cell? ⟨x3, 0, none⟩ = some (.int .i64 ap)
  e4 : w.cell? ⟨x4, 0, none⟩ = some (.int .i64 b)
  e5 : w.cell? ⟨x5, 0, none⟩ = some (.int .i64 bp)
theorem EndsAt.below {w w' : World} {x1 x2 x3 x4 x5 p a ap b bp : Nat} (h : EndsAt w x1 x2 x3 x4 x5 p a ap b bp) (hb : LeB w w') : EndsAt w' x1 x2 x3 x4 x5 p a ap b bp := by
  have q : ∀ {p : Addr} {u : Value}, w.cell? p = some u → w'.cell? p = some u := fun {p u} hc => (hb.cell (World.block_lt_of_cell? w _ hc)).trans hc
  exact ⟨q h.e1, q h.e2, q h.e3, q h.e4, q h.e5⟩
theorem find1_pred (x1 x2 x3 x4 x5 p a ap b bp : Nat) (w : World) (h : EndsAt w x1 x2 x3 x4 x5 p a ap b bp) :
    PredF 129 #[.pointer (some ⟨x1, 0, none⟩), .pointer (some ⟨x2, 0, none⟩), .pointer (some ⟨x3, 0, none⟩), .pointer (some ⟨x4, 0, none⟩), .pointer (some ⟨x5, 0, none⟩)] (fun f => f.at p a ap b bp) w := by
  intro W f hW
  have H := Lib.hid (h.below hW)
  clear h hW
  show Calls Try.prog 129 #[.agg f.cells, .pointer (some ⟨x1, 0, none⟩), .pointer (some ⟨x2, 0, none⟩), .pointer (some ⟨x3, 0, none⟩), .pointer (some ⟨x4, 0, none⟩), .pointer (some ⟨x5, 0, none⟩)] W _
  go_enter Try.func129, Try.ntmps129
  go_upto_region 1 with (fail)
  generalize hw0 : World.alloc W (.cells (Fl.cells f) 73) = wa
  have hblk : wa.heap[World.heap W |>.size]? = some (.cells (Fl.cells f) 73 (0, 0)) := by rw [← hw0]; exact heap_alloc_new _ _
  have hlt : (World.heap W).size < wa.heap.size := (Array.getElem?_eq_some_iff.1 hblk).1
  have hB0 : Below (World.heap W).size W wa := by rw [← hw0]; exact (Below.refl _ _).alloc (Nat.le_refl _) _
  clear hw0
  obtain ⟨e1, e2, e3, e4, e5⟩ := H.out.below hB0
  have HX := Lib.hid (And.intro hblk hB0)
  clear hblk hB0 hlt
  go_wp2_with fail
  refine (is_ok f ⟨W.heap.size, 0, none⟩ wa (FlAt.blk HX.out.1) p a ap b bp).mono ?_
  rintro e w1 ⟨rfl, rfl⟩
  go_wp2_with fail
  go_ret
  exact ⟨rfl, HX.out.2⟩
theorem find2_pred (x1 x2 x3 x4 x5 p a ap b bp : Nat) (w : World) (h : EndsAt w x1 x2 x3 x4 x5 p a ap b bp) :
    PredF 131 #[.pointer (some ⟨x1, 0, none⟩), .pointer (some ⟨x2, 0, none⟩), .pointer (some ⟨x3, 0, none⟩), .pointer (some ⟨x4, 0, none⟩), .pointer (some ⟨x5, 0, none⟩)] (fun f => f.at p a ap b bp) w := by
  intro W f hW
  have H := Lib.hid (h.below hW)
  clear h hW
  show Calls Try.prog 131 #[.agg f.cells, .pointer (some ⟨x1, 0, none⟩), .pointer (some ⟨x2, 0, none⟩), .pointer (some ⟨x3, 0, none⟩), .pointer (some ⟨x4, 0, none⟩), .pointer (some ⟨x5, 0, none⟩)] W _
  go_enter Try.func131, Try.ntmps131
  go_upto_region 1 with (fail)
  generalize hw0 : World.alloc W (.cells (Fl.cells f) 73) = wa
  have hblk : wa.heap[World.heap W |>.size]? = some (.cells (Fl.cells f) 73 (0, 0)) := by rw [← hw0]; exact heap_alloc_new _ _
  have hlt : (World.heap W).size < wa.heap.size := (Array.getElem?_eq_some_iff.1 hblk).1
  have hB0 : Below (World.heap W).size W wa := by rw [← hw0]; exact (Below.refl _ _).alloc (Nat.le_refl _) _
  clear hw0
  obtain ⟨e1, e2, e3, e4, e5⟩ := H.out.below hB0
  have HX := Lib.hid (And.intro hblk hB0)
  clear hblk hB0 hlt
  go_wp2_with fail
  refine (is_ok f ⟨W.heap.size, 0, none⟩ wa (FlAt.blk HX.out.1) p a ap b bp).mono ?_
  rintro e w1 ⟨rfl, rfl⟩
  go_wp2_with fail
  go_ret
  exact ⟨rfl, HX.out.2⟩
theorem find_ok (A : Option Addr) (n c : Nat) (l : List Fl) (hn : l.length = n) (hl : n ≤ 100000) (hc : n ≤ c) (p a ap b bp : Nat) (r : Int × Bool) (hR : findC l p a ap b bp = r) (w : World) (hr : Rd w A (rowC flc l)) :
    Calls Try.prog 91 #[.slice A n c, .int .i64 p, .int .i64 a, .int .i64 ap, .int .i64 b, .int .i64 bp] w fun e w' => e = .returned (.tuple #[.int .i64 r.1, .bool r.2]) ∧ LeB w w' := by
  have HK := Lib.hid (And.intro hR hr)
  clear hR hr
  go_enter Try.func91, Try.ntmps91
  go_upto_region 1 with (fail)
  generalize hw0 : World.alloc w (.cells #[.int .i64 p] 3) = wa
  have hblk : wa.heap[World.heap w |>.size]? = some (.cells #[.int .i64 p] 3 (0, 0)) := by rw [← hw0]; exact heap_alloc_new _ _
  have hlt : (World.heap w).size < wa.heap.size := (Array.getElem?_eq_some_iff.1 hblk).1
  have hB0 : Below (World.heap w).size w wa := by rw [← hw0]; exact (Below.refl _ _).alloc (Nat.le_refl _) _
  have hsz : (World.heap wa).size = (World.heap w).size + 1 := by rw [← hw0]; simp
  clear hw0
  rw [← hsz]
  have X0 := And.intro hblk (And.intro hlt hB0)
  clear hblk hlt hB0 hsz
  generalize hw0 : World.alloc wa (.cells #[.int .i64 a] 3) = wb
  have hblk : wb.heap[World.heap wa |>.size]? = some (.cells #[.int .i64 a] 3 (0, 0)) := by rw [← hw0]; exact heap_alloc_new _ _
  have hlt : (World.heap wa).size < wb.heap.size := (Array.getElem?_eq_some_iff.1 hblk).1
  have hB0 : Below (World.heap wa).size wa wb := by rw [← hw0]; exact (Below.refl _ _).alloc (Nat.le_refl _) _
  have hsz : (World.heap wb).size = (World.heap wa).size + 1 := by rw [← hw0]; simp
  clear hw0
  rw [← hsz]
  have X1 := And.intro hblk (And.intro hlt hB0)
  clear hblk hlt hB0 hsz
  generalize hw0 : World.alloc wb (.cells #[.int .i64 ap] 3) = wc
  have hblk : wc.heap[World.heap wb |>.size]? = some (.cells #[.int .i64 ap] 3 (0, 0)) := by rw [← hw0]; exact heap_alloc_new _ _
  have hlt : (World.heap wb).size < wc.heap.size := (Array.getElem?_eq_some_iff.1 hblk).1
  have hB0 : Below (World.heap wb).size wb wc := by rw [← hw0]; exact (Below.refl _ _).alloc (Nat.le_refl _) _
  have hsz : (World.heap wc).size = (World.heap wb).size + 1 := by rw [← hw0]; simp
  clear hw0
  rw [← hsz]
  have X2 := And.intro hblk (And.intro hlt hB0)
  clear hblk hlt hB0 hsz
  generalize hw0 : World.alloc wc (.cells #[.int .i64 b] 3) = wd
  have hblk : wd.heap[World.heap wc |>.size]? = some (.cells #[.int .i64 b] 3 (0, 0)) := by rw [← hw0]; exact heap_alloc_new _ _
  have hlt : (World.heap wc).size < wd.heap.size := (Array.getElem?_eq_some_iff.1 hblk).1
  have hB0 : Below (World.heap wc).size wc wd := by rw [← hw0]; exact (Below.refl _ _).alloc (Nat.le_refl _) _
  have hsz : (World.heap wd).size = (World.heap wc).size + 1 := by rw [← hw0]; simp
  clear hw0
  rw [← hsz]
  have X3 := And.intro hblk (And.intro hlt hB0)
  clear hblk hlt hB0 hsz
  generalize hw0 : World.alloc wd (.cells #[.int .i64 bp] 3) = we
  have hblk : we.heap[World.heap wd |>.size]? = some (.cells #[.int .i64 bp] 3 (0, 0)) := by rw [← hw0]; exact heap_alloc_new _ _
  have hlt : (World.heap wd).size < we.heap.size := (Array.getElem?_eq_some_iff.1 hblk).1
  have hB0 : Below (World.heap wd).size wd we := by rw [← hw0]; exact (Below.refl _ _).alloc (Nat.le_refl _) _
  clear hw0
  have X4 := And.intro hblk (And.intro hlt hB0)
  clear hblk hlt hB0
  have L3 : LeB wd we := X4.2.2
  have L2 : LeB wc we := LeB.tr X3.2.2 L3
  have L1 : LeB wb we := LeB.tr X2.2.2 L2
  have L0 : LeB wa we := LeB.tr X1.2.2 L1
  have hE : EndsAt we w.heap.size wa.heap.size wb.heap.size wc.heap.size wd.heap.size p a ap b bp := ⟨blk_cell ((L0.block _ X0.2.1).trans X0.1) 0, blk_cell ((L1.block _ X1.2.1).trans X1.1) 0, blk_cell ((L2.block _ X2.2.1).trans X2.1) 0, blk_cell ((L3.block _ X3.2.1).trans X3.1) 0, blk_cell X4.1 0⟩
  have HE := Lib.hid (And.intro hE (LeB.tr X0.2.2 L0))
  clear X0 X1 X2 X3 X4 L0 L1 L2 L3 hE
  subst hn
  go_wp2_with fail
  refine (IndexFunc_ok 129 _ _ A c l (by omega) hc we (HK.out.2.below HE.out.2 (Nat.le_refl _)) (find1_pred _ _ _ _ _ p a ap b bp we HE.out.1) Try.call129).mono ?_
  rintro e w1 ⟨rfl, hB1⟩
  have hge := idxC_ge (fun f => f.at p a ap b bp) l
  have hd := HK.out.1
  unfold findC at hd
  obtain ⟨k1, hk1⟩ : ∃ k, idxC (fun f => f.at p a ap b bp) l = k := ⟨_, rfl⟩
  rw [hk1] at hge hd ⊢
  have H1 := Lib.hid (And.intro hd hB1)
  clear hd hB1 hk1
  by_cases h0 : 0 ≤ k1
  · have H0 := Lib.hid h0
    go_wp2_with fail
    refine bodyPost_ret (v := .tuple #[.int .i64 k1, .bool false]) (by simp [results, go_sem]) rfl ⟨?_, LeB.tr HE.out.2 H1.out.2⟩
    have e1 := H1.out.1
    rw [if_pos H0.out] at e1
    rw [← e1]
  · obtain rfl : k1 = -1 := by omega
    clear h0 hge
    go_wp2_with fail
    refine (IndexFunc_ok 131 _ _ A c l (by omega) hc w1 (HK.out.2.below (LeB.tr HE.out.2 H1.out.2) (Nat.le_refl _)) (find2_pred _ _ _ _ _ p b bp a ap w1 ⟨(HE.out.1.below H1.out.2).e1, (HE.out.1.below H1.out.2).e4, (HE.out.1.below H1.out.2).e5, (HE.out.1.below H1.out.2).e2, (HE.out.1.below H1.out.2).e3⟩) Try.call131).mono ?_
    rintro e w2 ⟨rfl, hB2⟩
    have e1 := H1.out.1
    rw [if_neg (show ¬ (0 : Int) ≤ -1 by decide)] at e1
    obtain ⟨k2, hk2⟩ : ∃ k, idxC (fun f => f.at p b bp a ap) l = k := ⟨_, rfl⟩
    rw [hk2] at e1 ⊢
    have H2 := Lib.hid (And.intro e1 hB2)
    clear e1 hB2 hk2
    go_wp2_with fail
    refine bodyPost_ret (v := .tuple #[.int .i64 k2, .bool (decide (0 ≤ k2))]) (by simp [results, go_sem]) rfl ⟨?_, LeB.tr HE.out.2 (LeB.tr H1.out.2 H2.out.2)⟩
    rw [← H2.out.1]
end Go.Proofs.Ytdenjmdngmmodaa
