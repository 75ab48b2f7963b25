/- Flows, the other hand's: one is opened. -/
import Derived.Test.YtdenjmdngmmodaaFlE
import Derived.Test.YtdenjmdngmmodaaCsL
namespace Go.Proofs.Ytdenjmdngmmodaa
open Go.RowKit
set_option linter.unusedVariables false
set_option linter.unusedSimpArgs false
set_option maxRecDepth 200000
set_option maxHeartbeats 1000000

/-- A new list of none; a list of its own; a row of one flow. -/
def NewNone (B : Nat) : Spec := fun _ v w => ∃ b, v = .slice (some ⟨b, 0, none⟩) 0 0 ∧ B ≤ b ∧ w.heap[b]? = some (.cells #[] 73 (0, 0))
def OwnFl (B : Nat) (l : List Fl) : Spec := fun _ v w => w.ownsRow B 73 9 v l.length (rowC flc l)
def RowFl (l : List Fl) : Spec := fun _ v w => ∃ b, v = .slice (some ⟨b, 0, none⟩) l.length l.length ∧ Rd w (some ⟨b, 0, none⟩) (rowC flc l)
theorem NewNone.st {B : Nat} {x : Array Value} {v : Value} {w w' : World} (hL : LeB w w') (h : NewNone B x v w) : NewNone B x v w' := by
  obtain ⟨b, h1, h2, h3⟩ := h
  exact ⟨b, h1, h2, (hL.block b (Array.getElem?_eq_some_iff.1 h3).1).trans h3⟩
theorem OwnFl.st {B : Nat} {l : List Fl} {x : Array Value} {v : Value} {w w' : World} (hL : LeB w w') (h : OwnFl B l x v w) : OwnFl B l x v w' := own_belowR h hL
theorem RowFl.st {l : List Fl} {x : Array Value} {v : Value} {w w' : World} (hL : LeB w w') (h : RowFl l x v w) : RowFl l x v w' := by
  obtain ⟨b, h1, h2⟩ := h
  exact ⟨b, h1, h2.below hL (Nat.le_refl _)⟩
def opφ (B : Nat) (l : List Fl) (f : Fl) : Nat → Option Spec
  | 0 => some (NewNone B)
  | 2 => some (OwnFl B l)
  | 4 => some (RowFl [f])
  | _ => none
theorem opφ_st {B : Nat} {l : List Fl} {f : Fl} : ∀ j sp x v w w', opφ B l f j = some sp → LeB w w' → sp x v w → sp x v w' := by
  intro j sp x v w w' hj hL h
  unfold opφ at hj
  split at hj
  · cases hj; exact NewNone.st hL h
  · cases hj; exact OwnFl.st hL h
  · cases hj; exact RowFl.st hL h
  · cases hj
theorem cells_st (f : Fl) (s : Nat) : f.cells.setIfInBounds 6 (.int .i64 s) = Fl.cells { f with st := s } := rfl
theorem cells_til (f : Fl) (s : Nat) : f.cells.setIfInBounds 7 (.int .i64 s) = Fl.cells { f with til := s } := rfl
theorem blk_put {w0 w : World} {b k : Nat} {cs ds : Array Value} {T : TypeId} {u : Value} (h : w.heap[b]? = some (.cells cs T (0, 0))) (hB : LeB w0 w) (hb : w0.heap.size ≤ b) (he : cs.setIfInBounds k u = ds) :
    ∃ x, w.setCell ⟨b, k, none⟩ u = x ∧ x.heap[b]? = some (.cells ds T (0, 0)) ∧ LeB w0 x ∧ w.heap.size = x.heap.size :=
  ⟨_, rfl, by rw [blk_set h, he], hB.setCell (by exact hb) _, by simp [World.setCell]⟩
theorem l09Open_ok (A : Option Addr) (c : Nat) (l : List Fl) (hl : l.length ≤ 100000) (hc : l.length ≤ c) (f : Fl) (now : Nat) (hn : now ≤ 100000) (w : World) (hr : Rd w A (rowC flc l)) :
    Calls Try.prog 98 #[.slice A l.length c, .agg f.cells, .int .i64 now] w fun e w' => LeB w w' ∧ ((l.length = 8 ∧ e = .returned (.tuple #[.slice A l.length c, .int .i64 7])) ∨ (l.length ≠ 8 ∧ ∃ v, e = .returned (.tuple #[v, .int .i64 0]) ∧ w'.ownsRow w.heap.size 73 9 v (l ++ [openF f now]).length (rowC flc (l ++ [openF f now])))) := by
  have HK := Lib.hid (And.intro hr hl)
  have hnI : (now : Int) ≤ 100000 := by omega
  clear hr
  go_enter Try.func98, Try.ntmps98
  go_upto_region 1 with (fail)
  generalize hw0 : World.alloc w (.cells f.cells 73) = wa
  have hblk : wa.heap[World.heap w |>.size]? = some (.cells f.cells 73 (0, 0)) := by rw [← hw0]; exact heap_alloc_new _ _
  have hlt : (World.heap w).size < wa.heap.size := (Array.getElem?_eq_some_iff.1 hblk).1
  have hB0 : Below (World.heap w).size w wa := by rw [← hw0]; exact (Below.refl _ _).alloc (Nat.le_refl _) _
  have hsz : (World.heap wa).size = (World.heap w).size + 1 := by rw [← hw0]; simp
  clear hw0
  by_cases h8 : l.length = 8
  · have HB := Lib.hid hB0
    clear hblk hlt hB0 hsz
    rw [h8]
    go_wp2_with fail
    refine bodyPost_ret (v := .tuple #[.slice A 8 c, .int .i64 7]) (by simp [results, go_sem]) rfl ⟨HB.out, .inl ⟨h8, by rw [h8]⟩⟩
  · have h8I : ((l.length : Int) == 8) = false := by simp; omega
    have c6 := blk_cell hblk 6
    have f6 := blk_free hblk 6
    go_upto_region 4 with (fail)
    obtain ⟨x0, hx0, hb0, hL0, hz0⟩ := blk_put (k := 6) (u := .int .i64 1) hblk hB0 (Nat.le_refl _) (cells_st f 1)
    rw [hx0]
    clear hx0 c6 f6 hblk
    have c0 : x0.cell? ⟨w.heap.size, 0, none⟩ = some (.int .i64 f.proto) := blk_cell hb0 0
    have c7 : x0.cell? ⟨w.heap.size, 7, none⟩ = some (.int .i64 f.til) := blk_cell hb0 7
    have f7 := blk_free hb0 7
    have HX := Lib.hid (And.intro hb0 (And.intro hL0 (And.intro h8 (And.intro hlt hz0))))
    clear hb0 hL0 h8 hlt hB0 hz0 hsz
    go_wp2_with fail
    refine (l09Wait_ok f.proto 1 x0).mono ?_
    rintro e x0' ⟨rfl, rfl⟩
    obtain ⟨wt, hwt⟩ : ∃ x, waitC f.proto 1 = x := ⟨_, rfl⟩
    have hwl : wt ≤ 30 := by rw [← hwt]; exact waitC_le _ _
    rw [hwt]
    have HW := Lib.hid hwt
    clear hwt
    go_upto_region 5 with (fail)
    obtain ⟨x1, hx1, hb1, hL1, hz1⟩ := blk_put (k := 7) (u := .int .i64 ((now : Int) + wt)) HX.out.1 HX.out.2.1 (Nat.le_refl _) (cells_til { f with st := 1 } (now + wt))
    rw [hx1]
    clear hx1 c0 c7 f7
    have hof : openF f now = { f with st := 1, til := now + wt } := by unfold openF; rw [HW.out]
    have H1 := Lib.hid (And.intro hb1 (And.intro hL1 hof))
    have hbl := (Array.getElem?_eq_some_iff.1 hb1).1
    clear hb1 hL1 hof hz1
    refine wp_region_lex 5 (by kernel_rfl) (by kernel_rfl) (JB x1) LeB (opφ w.heap.size l (openF f now)) opφ_st JB.mono ?_ ?_
    · exact (Below.refl _ _).drew
    simp only [List.take_succ_cons, List.take_zero, List.drop_succ_cons, List.drop_zero, pairs, List.zipIdx_cons, List.zipIdx_nil, List.map_cons, List.map_nil, Nat.zero_add, Nat.reduceAdd]
    refine lex_eff' (sp := NewNone w.heap.size) rfl rfl (by intro _ _ _ _ h; exact h) (fun m W hJ hF => ?_) (fun v x hh => ?_) rfl
    · have hb : Below W.heap.size W (W.alloc (.cells #[] 73)) := (Below.refl _ _).alloc (Nat.le_refl _) _
      exact gives_value (v := .slice (some ⟨W.heap.size, 0, none⟩) 0 0) (by go_simp) ⟨hJ.step hb, hb, W.heap.size, rfl, (LeB.tr H1.out.2.1 hJ).size, heap_alloc_new _ _⟩
    obtain ⟨_, _, -, ⟨b0, rfl, -, -⟩, -⟩ := hh
    (repeat (refine lex_pure rfl rfl (fun K hK => ?_); go_simp; refine hK _ ?_; clear hK K; try simp (disch := omega) only [IntWalk.i64_in, IntWalk.u8_in, Int.add_sub_cancel, Int.tmod_eq_emod_of_nonneg, Int.tdiv_eq_ediv_of_nonneg]))
    refine lex_eff' (sp := OwnFl w.heap.size l) rfl rfl (by intro _ _ _ _ h; exact h) (fun m W hJ hF => ?_) (fun v x hh => ?_) rfl
    · obtain ⟨b', hb', hbB, hbh⟩ := hF 0 (by kernel_rfl) _ _ _ (by simp [upd]; exact ⟨rfl, rfl⟩) rfl
      cases hb'
      obtain ⟨v', w', hrun, hown, hB'⟩ := append_new W w.heap.size b0 hbh hbB A c l (HK.out.1.below (LeB.tr H1.out.2.1 hJ) (Nat.le_refl _)) HK.out.2
      exact gives_append _ _ _ _ rfl rfl rfl hrun ⟨hJ.step hB', hB', hown⟩
    refine lex_load rfl rfl (.agg (openF f now).cells) (fun m W hJ hF => run_exec_loadF rfl rfl ((hJ.block _ hbl).trans (by rw [H1.out.2.2]; exact H1.out.1)) Try.underlying73 rfl infoFl) ?_
    refine lex_eff' (sp := RowFl [openF f now]) rfl rfl (by intro _ _ _ _ h; exact h) (fun m W hJ hF => ?_) (fun v x hh => ?_) rfl
    · have hb : Below W.heap.size W (W.alloc (.cells (openF f now).cells 73)) := (Below.refl _ _).alloc (Nat.le_refl _) _
      refine gives_value (v := .slice (some ⟨W.heap.size, 0, none⟩) 1 1) (w' := W.alloc (.cells (openF f now).cells 73)) (by go_simp) ⟨hJ.step hb, hb, W.heap.size, rfl, ?_⟩
      simpa [rowC, flc] using Rd.block (heap_alloc_new W (.cells (openF f now).cells 73)) 0
    obtain ⟨_, _, -, ⟨b4, rfl, -⟩, -⟩ := hh
    refine lex_nil (fun m W hJ hF => ?_)
    have hown := hF 2 rfl _ _ _ (by simp [upd]; exact ⟨rfl, rfl⟩) rfl
    obtain ⟨b', hb', hrd⟩ := hF 4 rfl _ _ _ (by simp [upd]; exact ⟨rfl, rfl⟩) rfl
    cases hb'
    have L1 := LeB.tr H1.out.2.1 hJ
    obtain ⟨v3, w3, hrun, hown3, hg3⟩ := append_fl W w.heap.size _ l hown (some ⟨b4, 0, none⟩) 1 [openF f now] hrd (by simp; have := HK.out.2; omega) L1.size
    have hB4 : Below w.heap.size w w3 := L1.grown hg3 L1.size (fun g hg => (hown.lt g hg).1)
    refine wpList_append_run rfl _ _ _ _ rfl rfl rfl hrun ?_
    have H3 := Lib.hid (And.intro hown3 hB4)
    clear hrun hown hrd hown3 hB4 hg3 L1 hF hJ
    go_wp2_with fail
    refine bodyPost_ret (v := .tuple #[v3, .int .i64 0]) (by simp [results, go_sem]) rfl ⟨H3.out.2, .inr ⟨HX.out.2.2.1, v3, rfl, by have := H3.out.1; rwa [List.length_append] at this⟩⟩
end Go.Proofs.Ytdenjmdngmmodaa
