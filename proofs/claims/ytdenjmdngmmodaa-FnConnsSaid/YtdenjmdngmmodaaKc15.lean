/- Connections drawn: what a client may send. | Connections drawn: a client's segment and a connection, as called. | Connections drawn: regions that draw bytes and store a connection (their words). -/
import Derived.Test.YtdenjmdngmmodaaKc14
import Derived.Test.YtdenjmdngmmodaaKc08
import Derived.Deep.Cut
import Derived.Test.YtdenjmdngmmodaaKc00
namespace Go.Proofs.Ytdenjmdngmmodaa
open Go.RowKit
set_option linter.unusedVariables false
set_option linter.unusedSimpArgs false
set_option maxRecDepth 200000
set_option maxHeartbeats 4000000

def sgZero : Array Value := #[.int .i64 0, .int .i64 0, .int .i64 0, .int .i64 0, .int .i64 0, .int .i64 0, .string ⟨#[]⟩]
/-- Within a draw from source g: a boxed connection, a segment that is being made, the block of the result. -/
structure AnW (w0 w : World) (g : Nat) (N : Int) (b : Nat) (c : Cn) (s : Nat) (sg : Sg) (r : Nat) : Prop where
  cn : w.heap[b]? = some (.cells c.cells 48 (0, 0))
  sg : w.heap[s]? = some (.cells sg.cells 55 (0, 0))
  rs : w.heap[r]? = some (.cells sgZero 55 (0, 0))
  src : Src w g N
  gr : w0.grownBy w (some g)
  gl : g < w0.heap.size
  hb : w0.heap.size ≤ b
  hr : w0.heap.size ≤ r
  hs : w0.heap.size ≤ s
  ne : s ≠ b
  nr : s ≠ r
theorem AnW.draw {w0 w W : World} {g b s r : Nat} {N M : Int} {c : Cn} {sg : Sg} (h : AnW w0 w g N b c s sg r) (hg : w.grownBy W (some g)) (hs : Src W g M) : AnW w0 W g M b c s sg r := by
  have k1 := (Array.getElem?_eq_some_iff.1 h.cn).1
  have k2 := (Array.getElem?_eq_some_iff.1 h.sg).1
  have k3 := (Array.getElem?_eq_some_iff.1 h.rs).1
  have hgl := h.gl
  have n1 : some b ≠ some g := by intro e; injection e with e; have := h.hb; omega
  have n2 : some s ≠ some g := by intro e; injection e with e; have := h.hs; omega
  have n3 : some r ≠ some g := by intro e; injection e with e; have := h.hr; omega
  exact ⟨(hg.block b k1 n1).trans h.cn, (hg.block s k2 n2).trans h.sg, (hg.block r k3 n3).trans h.rs, hs, grown_trans h.gr hg, h.gl, h.hb, h.hr, h.hs, h.ne, h.nr⟩
theorem AnW.below {w0 w W : World} {g b s r : Nat} {N : Int} {c : Cn} {sg : Sg} (h : AnW w0 w g N b c s sg r) (hB : LeB w W) : AnW w0 W g N b c s sg r :=
  h.draw (grownBy_of_below hB _) (h.src.below hB h.src.lt)
theorem AnW.put {w0 w : World} {g b s r : Nat} {N : Int} {c : Cn} {sg : Sg} (h : AnW w0 w g N b c s sg r) (sg' : Sg) (k : Nat) (u : Value) (hc : sg.cells.setIfInBounds k u = sg'.cells) : ∃ w', w.setCell ⟨s, k, none⟩ u = w' ∧ AnW w0 w' g N b c s sg' r := by
  have hgl := h.gl
  have hs := h.hs
  refine ⟨_, rfl, (Below.heap_setCell w ⟨s, k, none⟩ u b (Ne.symm h.ne)).trans h.cn, by rw [blk_set h.sg, hc], (Below.heap_setCell w ⟨s, k, none⟩ u r (Ne.symm h.nr)).trans h.rs, h.src.setCell ⟨s, k, none⟩ (by show g < s; omega) u, grown_setCell h.gr (by exact hs) u, h.gl, h.hb, h.hr, h.hs, h.ne, h.nr⟩
/-- What answer gives. -/
def AnV (v : Value) : Prop := ∃ sg : Sg, v = .agg sg.cells ∧ SegOK sg.src sg.dst sg.seq sg.ack sg.flags sg.space sg.data
theorem AnW.fin {w0 w : World} {g b s r : Nat} {N M : Int} {c : Cn} {sg : Sg} (h : AnW w0 w g N b c s sg r) (hok : SegOK sg.src sg.dst sg.seq sg.ack sg.flags sg.space sg.data) (hM : N ≤ M) (C : Array Value) (hC : C = sg.cells) : SrcRet w0 g M AnV (.returned (.agg C)) (w.setRow r C) := by
  subst hC
  have hgl := h.gl
  have hr := h.hr
  refine ⟨_, rfl, ⟨sg, rfl, hok⟩, (h.src.more hM).keep fun k hk => setRow_other w r k _ (by omega), ?_⟩
  exact ⟨h.gr.os, h.gr.tape, h.gr.output, by simpa [World.setRow] using h.gr.size, fun k hk hne => (setRow_other w r k _ (by omega)).trans (h.gr.block k hk hne)⟩
def anφ (i j : Nat) : Nat → Option Spec := fun k => if k = i then some (fun _ v _ => ∃ q : Nat, v = .int .i64 q ∧ q < 4) else if k = j then some (fun _ v _ => ∃ y : Nat, v = .int .i64 y ∧ y < 4294967296) else none
theorem anφ_st {i j : Nat} {Le : World → World → Prop} : ∀ k sp x v w w', anφ i j k = some sp → Le w w' → sp x v w → sp x v w' := by
  intro k sp x v w w' hk _ h
  unfold anφ at hk
  split at hk
  · cases hk; exact h
  · split at hk
    · cases hk; exact h
    · cases hk
def JA (w0 : World) (g : Nat) (N : Int) (b : Nat) (c : Cn) (s : Nat) (sg : Sg) (r : Nat) (n0 : Nat) (m : Nat) (w : World) : Prop := AnW w0 w g (N + 3 * ((n0 : Int) - m)) b c s sg r
theorem JA.mono {w0 : World} {g b s r n0 : Nat} {N : Int} {c : Cn} {sg : Sg} (m : Nat) (w : World) (h : JA w0 g N b c s sg r n0 (m + 1) w) : JA w0 g N b c s sg r n0 m w :=
  ⟨h.cn, h.sg, h.rs, h.src.more (by omega), h.gr, h.gl, h.hb, h.hr, h.hs, h.ne, h.nr⟩
theorem l10Seq_any (x : Int) (w : World) : Calls Try.prog 139 #[.int .i64 x] w fun e w' => ∃ y : Nat, e = .returned (.int .i64 y) ∧ y < 4294967296 ∧ w = w' := by
  have h : bits .and .i64 x 4294967295 = (((x % 4294967296).toNat : Nat) : Int) := by rw [and_maxZ]; omega
  refine (l10Seq_is x _ h w).mono ?_
  rintro e w' ⟨rfl, rfl⟩
  exact ⟨_, rfl, by omega, rfl⟩
theorem answer_ok (g : Nat) (N : Int) (c : Cn) (hc : CnOK c) (w : World) (hs : Src w g N) (hN : N ≤ 10000000) :
    Calls Try.prog 103 #[.pointer (some ⟨g, 0, none⟩), .agg c.cells] w (SrcRet w g (N + 60) AnV) := by
  have hgl := hs.lt
  have h0 : SegOK c.port 80 c.want c.nxt 16 1000 ⟨#[]⟩ := ⟨hc.port, by omega, hc.want, hc.nxt, by omega, by omega, by show 0 ≤ 360; omega⟩
  have hwI : (c.want : Int) < 4294967296 := by have := hc.want; omega
  have huI : (c.una : Int) < 4294967296 := by have := hc.una; omega
  have HK := Lib.hid (And.intro hc (And.intro hs (And.intro hgl h0)))
  clear hc hs hgl h0
  go_enter Try.func103, Try.ntmps103
  go_wp2_with fail
  generalize hw0 : World.alloc w (.cells c.cells 48) = wa
  have hblk : wa.heap[World.heap w |>.size]? = some (.cells c.cells 48 (0, 0)) := by rw [← hw0]; exact heap_alloc_new _ _
  have hlt : (World.heap w).size < wa.heap.size := (Array.getElem?_eq_some_iff.1 hblk).1
  have hB0 : Below (World.heap w).size w wa := by rw [← hw0]; exact (Below.refl _ _).alloc (Nat.le_refl _) _
  have hsz : (World.heap wa).size = (World.heap w).size + 1 := by rw [← hw0]; simp
  clear hw0
  rw [← hsz]
  have X1 := And.intro hblk (And.intro hlt hB0)
  clear hblk hlt hB0 hsz
  generalize hw0 : World.alloc wa (.cells #[.int .i64 0, .int .i64 0, .int .i64 0, .int .i64 0, .int .i64 0, .int .i64 0, .string ⟨#[]⟩] 55) = wb
  have hblk : wb.heap[World.heap wa |>.size]? = some (.cells #[.int .i64 0, .int .i64 0, .int .i64 0, .int .i64 0, .int .i64 0, .int .i64 0, .string ⟨#[]⟩] 55 (0, 0)) := by rw [← hw0]; exact heap_alloc_new _ _
  have hlt : (World.heap wa).size < wb.heap.size := (Array.getElem?_eq_some_iff.1 hblk).1
  have hB0 : Below (World.heap wa).size wa wb := by rw [← hw0]; exact (Below.refl _ _).alloc (Nat.le_refl _) _
  have hsz : (World.heap wb).size = (World.heap wa).size + 1 := by rw [← hw0]; simp
  clear hw0
  rw [← hsz]
  have X2 := And.intro hblk (And.intro hlt hB0)
  clear hblk hlt hB0 hsz
  generalize hw0 : World.alloc wb (.cells (Sg.cells ⟨c.port, 80, c.want, c.nxt, 16, 1000, ⟨#[]⟩⟩) 55) = wc
  have hblk : wc.heap[World.heap wb |>.size]? = some (.cells (Sg.cells ⟨c.port, 80, c.want, c.nxt, 16, 1000, ⟨#[]⟩⟩) 55 (0, 0)) := by rw [← hw0]; exact heap_alloc_new _ _
  have hlt : (World.heap wb).size < wc.heap.size := (Array.getElem?_eq_some_iff.1 hblk).1
  have hB0 : Below (World.heap wb).size wb wc := by rw [← hw0]; exact (Below.refl _ _).alloc (Nat.le_refl _) _
  clear hw0
  have L1 : LeB wa wc := LeB.tr X2.2.2 hB0
  have L0 : LeB w wc := LeB.tr X1.2.2 L1
  have HX := Lib.hid (AnW.mk (w0 := w) (c := c) (sg := ⟨c.port, 80, c.want, c.nxt, 16, 1000, ⟨#[]⟩⟩) ((L1.block _ X1.2.1).trans X1.1) hblk ((hB0.block _ X2.2.1).trans X2.1) (HK.out.2.1.below L0 HK.out.2.2.1) (grownBy_of_below L0 _) HK.out.2.2.1 (Nat.le_refl _) X1.2.2.size (Nat.le_trans X1.2.2.size X2.2.2.size) (Nat.ne_of_gt (Nat.lt_of_lt_of_le X1.2.1 X2.2.2.size)) (Nat.ne_of_gt X2.2.1))
  clear X1 X2 hblk hlt hB0 L1 L0
  refine (next_ok g N 9 wc HX.out.src (by omega) (by omega)).mono ?_
  rintro e w1 ⟨v, rfl, ⟨m, rfl, hm0, hm1⟩, hs1, hg1⟩
  have H1 := Lib.hid (HX.out.draw hg1 hs1)
  clear HX hs1 hg1
  obtain ⟨r, rfl⟩ := Int.eq_ofNat_of_zero_le hm0
  have hr9 : r < 9 := by omega
  clear hm0 hm1
  have hcase : r = 0 ∨ r = 1 ∨ r = 2 ∨ r = 3 ∨ r = 4 ∨ r = 5 ∨ 5 < r := by omega
  rcases hcase with rfl | rfl | rfl | rfl | rfl | rfl | hr
  · go_wp2_with fail
    have hmk : (Instr.makeSlice 22 (.int .i64 280) (.int .i64 280)).run Try.prog w1 = .ok (.slice (some ⟨w1.heap.size, 0, none⟩) 280 280) (w1.alloc (.cells (List.replicate 280 (Value.int .u8 0)).toArray 5)) := make_bytes 280 (by omega) w1
    rw [hmk]
    clear hmk
    obtain ⟨w2, hw2, hB2, hrd⟩ : ∃ x, w1.alloc (.cells (List.replicate 280 (Value.int .u8 0)).toArray 5) = x ∧ LeB w1 x ∧ Rd x (some ⟨w1.heap.size, 0, none⟩) ((List.replicate 280 (0 : UInt8)).map bV) := ⟨_, rfl, (Below.refl _ _).alloc (Nat.le_refl _) _, by
      have h := Rd.block (heap_alloc_new w1 (.cells (List.replicate 280 (Value.int .u8 0)).toArray 5)) 0
      simpa [bV] using h⟩
    rw [hw2]
    clear hw2
    have hcv : (convert 22 9 (.slice (some ⟨w1.heap.size, 0, none⟩) 280 280)).run Try.prog w2 = .ok (.string (bstr (List.replicate 280 0))) w2 := bytes_str _ 280 280 (List.replicate 280 0) (List.length_replicate ..) w2 hrd
    obtain ⟨z, hz⟩ : ∃ z, bstr (List.replicate 280 0) = z := ⟨_, rfl⟩
    have hzs : z.size = 280 := by rw [← hz, bstr_size, List.length_replicate]
    rw [hz] at hcv
    have H2 := Lib.hid (And.intro (H1.out.below hB2) hzs)
    have Hlt := Lib.hid (And.intro hB2.size H1.out.src.lt)
    clear hz hzs hrd hB2
    go_wp2_with fail
    generalize hw0 : World.alloc w2 (.cells #[.string ⟨#[100, 97, 116, 97]⟩, .string z] 9) = w3
    have hblk : w3.heap[World.heap w2 |>.size]? = some (.cells #[.string ⟨#[100, 97, 116, 97]⟩, .string z] 9 (0, 0)) := by rw [← hw0]; exact heap_alloc_new _ _
    have hlt : (World.heap w2).size < w3.heap.size := (Array.getElem?_eq_some_iff.1 hblk).1
    have hB0 : Below (World.heap w2).size w2 w3 := by rw [← hw0]; exact (Below.refl _ _).alloc (Nat.le_refl _) _
    clear hw0
    have H3 := Lib.hid (H2.out.1.below hB0)
    have hrs : Rd w3 (some ⟨w2.heap.size, 0, none⟩) (([⟨#[100, 97, 116, 97]⟩, z] : List ByteArray).map Value.string) := by simpa using Rd.block hblk 0
    have hwg : w2.heap.size ≠ g := by have := Hlt.out; omega
    clear hblk hlt hB0
    refine (pick_ok g (N + 3) w3 H3.out.src (by omega) (some ⟨w2.heap.size, 0, none⟩) 2 [⟨#[100, 97, 116, 97]⟩, z] (by simp) (by simp) (fun ad e => by cases e; exact hwg) hrs).mono ?_
    rintro e w4 ⟨v, rfl, ⟨s, hs, rfl⟩, hs4, hg4⟩
    have H4 := Lib.hid (H3.out.draw hg4 hs4)
    have hsz : s.size ≤ 360 := by
      simp at hs
      rcases hs with rfl | rfl
      · show 4 ≤ 360; omega
      · have := H2.out.2; omega
    have HSZ := Lib.hid hsz
    have f6 := blk_free H4.out.sg 6
    have d6 : w4.cell? ⟨wb.heap.size, 6, none⟩ = some (.string ⟨#[]⟩) := blk_cell H4.out.sg 6
    clear hs hsz hs4 hg4 hrs hwg hcv
    go_upto_region 17 with (fail)
    obtain ⟨x0, hx0, Y0⟩ := H4.out.put ⟨c.port, 80, c.want, c.nxt, 16, 1000, s⟩ 6 (.string s) rfl
    rw [hx0]
    clear hx0 f6 d6
    have HZ := Lib.hid Y0
    clear Y0
    have d0 := blk_cell HZ.out.sg 0
    have d1 := blk_cell HZ.out.sg 1
    have d2 := blk_cell HZ.out.sg 2
    have d3 := blk_cell HZ.out.sg 3
    have d4 := blk_cell HZ.out.sg 4
    have d5 := blk_cell HZ.out.sg 5
    have d6 := blk_cell HZ.out.sg 6
    simp at d0 d1 d2 d3 d4 d5 d6
    go_wp2_with (refine wpList_store_row rfl _ _ 55 rfl wa.heap.size 55 _ _ rfl rfl HZ.out.rs rfl infoSg rfl ?_)
    refine bodyPost_ret (ret_cell rfl rfl (setRow_heap _ _ _ _ _ _ HZ.out.rs) Try.underlying55 rfl infoSg) rfl ?_
    exact HZ.out.fin (⟨HK.out.1.port, by show 80 < 65536; omega, HK.out.1.want, HK.out.1.nxt, by show 16 < 32; omega, by show 1000 < 65536; omega, HSZ.out⟩) (by omega) _ rfl
  · have f6 := blk_free H1.out.sg 6
    have d6 : w1.cell? ⟨wb.heap.size, 6, none⟩ = some (.string ⟨#[]⟩) := blk_cell H1.out.sg 6
    go_upto_region 7 with (fail)
    obtain ⟨x0, hx0, Y0⟩ := H1.out.put ⟨c.port, 80, c.want, c.nxt, 16, 1000, ⟨#[108, 97, 116, 101]⟩⟩ 6 (.string ⟨#[108, 97, 116, 101]⟩) rfl
    rw [hx0]
    clear hx0 f6 d6
    have HL := Lib.hid Y0
    clear Y0
    refine wp_region_lex 7 (by kernel_rfl) (by kernel_rfl) (JA w g (N + 3) w.heap.size c wb.heap.size ⟨c.port, 80, c.want, c.nxt, 16, 1000, ⟨#[108, 97, 116, 101]⟩⟩ wa.heap.size 7) (fun _ _ => True) (anφ 4 6) anφ_st JA.mono ?_ ?_
    · exact (HL.out.below ((Below.refl _ _).drew)).draw (World.grownBy.refl _ _) ((HL.out.below ((Below.refl _ _).drew)).src.more (by omega))
    simp only [List.take_succ_cons, List.take_zero, List.drop_succ_cons, List.drop_zero, pairs, List.zipIdx_cons, List.zipIdx_nil, List.map_cons, List.map_nil, Nat.zero_add, Nat.reduceAdd]
    (repeat (refine lex_pure rfl rfl (fun K hK => ?_); go_simp; refine hK _ ?_; clear hK K; try simp (disch := omega) only [IntWalk.i64_in, IntWalk.u8_in, Int.add_sub_cancel, Int.tmod_eq_emod_of_nonneg, Int.tdiv_eq_ediv_of_nonneg]))
    refine lex_load rfl rfl (.int .i64 c.want) (fun m W hJ hF => (by have cc := (blk_cell (AnW.cn hJ) 7).trans (Cn.g7 c); go_simp)) ?_
    (repeat (refine lex_pure rfl rfl (fun K hK => ?_); go_simp; refine hK _ ?_; clear hK K; try simp (disch := omega) only [IntWalk.i64_in, IntWalk.u8_in, Int.add_sub_cancel, Int.tmod_eq_emod_of_nonneg, Int.tdiv_eq_ediv_of_nonneg]))
    refine lex_eff' (sp := fun _ v _ => ∃ q : Nat, v = .int .i64 q ∧ q < 4) rfl rfl (by intro _ _ _ _ h; exact h) (fun m W hJ hF => ?_) (fun v x hh => ?_) rfl
    · refine gives_call Try.call109 ((next_ok g _ 4 W (AnW.src hJ) (by omega) (by omega)).mono ?_)
      rintro e w' ⟨v, rfl, ⟨m', rfl, hm0, hm1⟩, hs3, hg3⟩
      obtain ⟨q, rfl⟩ := Int.eq_ofNat_of_zero_le hm0
      exact ⟨_, rfl, (AnW.draw hJ hg3 hs3).draw (World.grownBy.refl _ _) (hs3.more (by omega)), trivial, q, rfl, by omega⟩
    obtain ⟨_, _, -, ⟨q, rfl, hq⟩, -⟩ := hh
    have hqI : (q : Int) < 4 := by omega
    (repeat (refine lex_pure rfl rfl (fun K hK => ?_); go_simp; refine hK _ ?_; clear hK K; try simp (disch := omega) only [IntWalk.i64_in, IntWalk.u8_in, Int.add_sub_cancel, Int.tmod_eq_emod_of_nonneg, Int.tdiv_eq_ediv_of_nonneg]))
    refine lex_eff' (sp := fun _ v _ => ∃ y : Nat, v = .int .i64 y ∧ y < 4294967296) rfl rfl (by intro _ _ _ _ h; exact h) (fun m W hJ hF => ?_) (fun v x hh => ?_) rfl
    · refine gives_call Try.call139 ((l10Seq_any _ W).mono ?_)
      rintro e w' ⟨y, rfl, hy, rfl⟩
      exact ⟨_, rfl, JA.mono _ _ hJ, trivial, y, rfl, hy⟩
    obtain ⟨_, _, -, ⟨y, rfl, hy⟩, -⟩ := hh
    refine lex_nil (fun m W hJ hF => ?_)
    have H2 := Lib.hid (And.intro (AnW.draw hJ (World.grownBy.refl _ _) ((AnW.src hJ).more (show _ ≤ N + 24 + 3 by omega))) hy)
    have f2 := blk_free (AnW.sg hJ) 2
    have d2 : W.cell? ⟨wb.heap.size, 2, none⟩ = some (.int .i64 c.want) := blk_cell (AnW.sg hJ) 2
    clear hF hJ hy
    go_upto_region 17 with (fail)
    obtain ⟨x1, hx1, Y1⟩ := H2.out.1.put ⟨c.port, 80, y, c.nxt, 16, 1000, ⟨#[108, 97, 116, 101]⟩⟩ 2 (.int .i64 y) rfl
    rw [hx1]
    clear hx1 f2 d2
    have HZ := Lib.hid Y1
    clear Y1
    have d0 := blk_cell HZ.out.sg 0
    have d1 := blk_cell HZ.out.sg 1
    have d2 := blk_cell HZ.out.sg 2
    have d3 := blk_cell HZ.out.sg 3
    have d4 := blk_cell HZ.out.sg 4
    have d5 := blk_cell HZ.out.sg 5
    have d6 := blk_cell HZ.out.sg 6
    simp at d0 d1 d2 d3 d4 d5 d6
    go_wp2_with (refine wpList_store_row rfl _ _ 55 rfl wa.heap.size 55 _ _ rfl rfl HZ.out.rs rfl infoSg rfl ?_)
    refine bodyPost_ret (ret_cell rfl rfl (setRow_heap _ _ _ _ _ _ HZ.out.rs) Try.underlying55 rfl infoSg) rfl ?_
    exact HZ.out.fin (⟨HK.out.1.port, by show 80 < 65536; omega, H2.out.2, HK.out.1.nxt, by show 16 < 32; omega, by show 1000 < 65536; omega, by show 4 ≤ 360; omega⟩) (by omega) _ rfl
  · have e17 : bits .or .i64 16 1 = 17 := by decide +kernel
    have d4 : w1.cell? ⟨wb.heap.size, 4, none⟩ = some (.int .i64 16) := blk_cell H1.out.sg 4
    have f4 := blk_free H1.out.sg 4
    go_upto_region 17 with (fail)
    obtain ⟨x0, hx0, Y0⟩ := H1.out.put ⟨c.port, 80, c.want, c.nxt, 17, 1000, ⟨#[]⟩⟩ 4 (.int .i64 17) rfl
    rw [hx0]
    clear hx0 d4 f4 e17
    have HZ := Lib.hid Y0
    clear Y0
    have d0 := blk_cell HZ.out.sg 0
    have d1 := blk_cell HZ.out.sg 1
    have d2 := blk_cell HZ.out.sg 2
    have d3 := blk_cell HZ.out.sg 3
    have d4 := blk_cell HZ.out.sg 4
    have d5 := blk_cell HZ.out.sg 5
    have d6 := blk_cell HZ.out.sg 6
    simp at d0 d1 d2 d3 d4 d5 d6
    go_wp2_with (refine wpList_store_row rfl _ _ 55 rfl wa.heap.size 55 _ _ rfl rfl HZ.out.rs rfl infoSg rfl ?_)
    refine bodyPost_ret (ret_cell rfl rfl (setRow_heap _ _ _ _ _ _ HZ.out.rs) Try.underlying55 rfl infoSg) rfl ?_
    exact HZ.out.fin (⟨HK.out.1.port, by show 80 < 65536; omega, HK.out.1.want, HK.out.1.nxt, by show 17 < 32; omega, by show 1000 < 65536; omega, by show 0 ≤ 360; omega⟩) (by omega) _ rfl
  · go_wp2_with fail
    generalize hw0 : World.alloc w1 (.cells #[.int .i64 4, .int .i64 2, .int .i64 0, .int .i64 18] 3) = w2
    have hblk : w2.heap[World.heap w1 |>.size]? = some (.cells #[.int .i64 4, .int .i64 2, .int .i64 0, .int .i64 18] 3 (0, 0)) := by rw [← hw0]; exact heap_alloc_new _ _
    have hlt : (World.heap w1).size < w2.heap.size := (Array.getElem?_eq_some_iff.1 hblk).1
    have hB0 : Below (World.heap w1).size w1 w2 := by rw [← hw0]; exact (Below.refl _ _).alloc (Nat.le_refl _) _
    clear hw0
    have H2 := Lib.hid (And.intro (H1.out.below hB0) (And.intro hblk hlt))
    clear hblk hlt hB0
    refine (next_ok g (N + 3) 4 w2 H2.out.1.src (by omega) (by omega)).mono ?_
    rintro e w3 ⟨v, rfl, ⟨m, rfl, hm0, hm1⟩, hs3, hg3⟩
    have hne : some w1.heap.size ≠ some g := by intro e; injection e with e; have := H1.out.src.lt; omega
    have hb3 := (hg3.block _ H2.out.2.2 hne).trans H2.out.2.1
    have H3 := Lib.hid (H2.out.1.draw hg3 hs3)
    obtain ⟨q, rfl⟩ := Int.eq_ofNat_of_zero_le hm0
    have hq4 : q < 4 := by omega
    have hq4I : (q : Int) < 4 := by omega
    obtain ⟨fl, hfl, hcell⟩ : ∃ fl : Nat, fl < 32 ∧ w3.cell? ⟨w1.heap.size, q, none⟩ = some (.int .i64 fl) := by
      rcases q with _ | _ | _ | _ | q
      · exact ⟨4, by omega, blk_cell hb3 0⟩
      · exact ⟨2, by omega, blk_cell hb3 1⟩
      · exact ⟨0, by omega, blk_cell hb3 2⟩
      · exact ⟨18, by omega, blk_cell hb3 3⟩
      · omega
    have HF := Lib.hid hfl
    have d4 : w3.cell? ⟨wb.heap.size, 4, none⟩ = some (.int .i64 16) := blk_cell H3.out.sg 4
    have f4 := blk_free H3.out.sg 4
    clear hs3 hg3 hm0 hm1 hb3 hne hq4 hfl
    go_upto_region 17 with (fail)
    obtain ⟨x0, hx0, Y0⟩ := H3.out.put ⟨c.port, 80, c.want, c.nxt, fl, 1000, ⟨#[]⟩⟩ 4 (.int .i64 fl) rfl
    rw [hx0]
    clear hx0 d4 f4 hcell hq4I
    have HZ := Lib.hid Y0
    clear Y0
    have d0 := blk_cell HZ.out.sg 0
    have d1 := blk_cell HZ.out.sg 1
    have d2 := blk_cell HZ.out.sg 2
    have d3 := blk_cell HZ.out.sg 3
    have d4 := blk_cell HZ.out.sg 4
    have d5 := blk_cell HZ.out.sg 5
    have d6 := blk_cell HZ.out.sg 6
    simp at d0 d1 d2 d3 d4 d5 d6
    go_wp2_with (refine wpList_store_row rfl _ _ 55 rfl wa.heap.size 55 _ _ rfl rfl HZ.out.rs rfl infoSg rfl ?_)
    refine bodyPost_ret (ret_cell rfl rfl (setRow_heap _ _ _ _ _ _ HZ.out.rs) Try.underlying55 rfl infoSg) rfl ?_
    exact HZ.out.fin (⟨HK.out.1.port, by show 80 < 65536; omega, HK.out.1.want, HK.out.1.nxt, HF.out, by show 1000 < 65536; omega, by show 0 ≤ 360; omega⟩) (by omega) _ rfl
  · have F4 : True := trivial
    go_upto_region 13 with (fail)
    refine wp_region_lex 6 (by kernel_rfl) (by kernel_rfl) (JA w g (N + 3) w.heap.size c wb.heap.size ⟨c.port, 80, c.want, c.nxt, 16, 1000, ⟨#[]⟩⟩ wa.heap.size 6) (fun _ _ => True) (anφ 3 5) anφ_st JA.mono ?_ ?_
    · exact (H1.out.below ((Below.refl _ _).drew)).draw (World.grownBy.refl _ _) ((H1.out.below ((Below.refl _ _).drew)).src.more (by omega))
    simp only [List.take_succ_cons, List.take_zero, List.drop_succ_cons, List.drop_zero, pairs, List.zipIdx_cons, List.zipIdx_nil, List.map_cons, List.map_nil, Nat.zero_add, Nat.reduceAdd]
    (repeat (refine lex_pure rfl rfl (fun K hK => ?_); go_simp; refine hK _ ?_; clear hK K; try simp (disch := omega) only [IntWalk.i64_in, IntWalk.u8_in, Int.add_sub_cancel, Int.tmod_eq_emod_of_nonneg, Int.tdiv_eq_ediv_of_nonneg]))
    refine lex_load rfl rfl (.int .i64 c.una) (fun m W hJ hF => (by have cc := (blk_cell (AnW.cn hJ) 5).trans (Cn.g5 c); go_simp)) ?_
    (repeat (refine lex_pure rfl rfl (fun K hK => ?_); go_simp; refine hK _ ?_; clear hK K; try simp (disch := omega) only [IntWalk.i64_in, IntWalk.u8_in, Int.add_sub_cancel, Int.tmod_eq_emod_of_nonneg, Int.tdiv_eq_ediv_of_nonneg]))
    refine lex_eff' (sp := fun _ v _ => ∃ q : Nat, v = .int .i64 q ∧ q < 4) rfl rfl (by intro _ _ _ _ h; exact h) (fun m W hJ hF => ?_) (fun v x hh => ?_) rfl
    · refine gives_call Try.call109 ((next_ok g _ 4 W (AnW.src hJ) (by omega) (by omega)).mono ?_)
      rintro e w' ⟨v, rfl, ⟨m', rfl, hm0, hm1⟩, hs3, hg3⟩
      obtain ⟨q, rfl⟩ := Int.eq_ofNat_of_zero_le hm0
      exact ⟨_, rfl, (AnW.draw hJ hg3 hs3).draw (World.grownBy.refl _ _) (hs3.more (by omega)), trivial, q, rfl, by omega⟩
    obtain ⟨_, _, -, ⟨q, rfl, hq⟩, -⟩ := hh
    have hqI : (q : Int) < 4 := by omega
    (repeat (refine lex_pure rfl rfl (fun K hK => ?_); go_simp; refine hK _ ?_; clear hK K; try simp (disch := omega) only [IntWalk.i64_in, IntWalk.u8_in, Int.add_sub_cancel, Int.tmod_eq_emod_of_nonneg, Int.tdiv_eq_ediv_of_nonneg]))
    refine lex_eff' (sp := fun _ v _ => ∃ y : Nat, v = .int .i64 y ∧ y < 4294967296) rfl rfl (by intro _ _ _ _ h; exact h) (fun m W hJ hF => ?_) (fun v x hh => ?_) rfl
    · refine gives_call Try.call139 ((l10Seq_any _ W).mono ?_)
      rintro e w' ⟨y, rfl, hy, rfl⟩
      exact ⟨_, rfl, JA.mono _ _ hJ, trivial, y, rfl, hy⟩
    obtain ⟨_, _, -, ⟨y, rfl, hy⟩, -⟩ := hh
    refine lex_nil (fun m W hJ hF => ?_)
    have H2 := Lib.hid (And.intro (AnW.draw hJ (World.grownBy.refl _ _) ((AnW.src hJ).more (show _ ≤ N + 21 + 3 by omega))) hy)
    have f3 := blk_free (AnW.sg hJ) 3
    have d3 : W.cell? ⟨wb.heap.size, 3, none⟩ = some (.int .i64 c.nxt) := blk_cell (AnW.sg hJ) 3
    clear hF hJ hy
    go_upto_region 17 with (fail)
    obtain ⟨x0, hx0, Y0⟩ := H2.out.1.put ⟨c.port, 80, c.want, y, 16, 1000, ⟨#[]⟩⟩ 3 (.int .i64 y) rfl
    rw [hx0]
    clear hx0 f3 d3
    have HZ := Lib.hid Y0
    clear Y0
    have d0 := blk_cell HZ.out.sg 0
    have d1 := blk_cell HZ.out.sg 1
    have d2 := blk_cell HZ.out.sg 2
    have d3 := blk_cell HZ.out.sg 3
    have d4 := blk_cell HZ.out.sg 4
    have d5 := blk_cell HZ.out.sg 5
    have d6 := blk_cell HZ.out.sg 6
    simp at d0 d1 d2 d3 d4 d5 d6
    go_wp2_with (refine wpList_store_row rfl _ _ 55 rfl wa.heap.size 55 _ _ rfl rfl HZ.out.rs rfl infoSg rfl ?_)
    refine bodyPost_ret (ret_cell rfl rfl (setRow_heap _ _ _ _ _ _ HZ.out.rs) Try.underlying55 rfl infoSg) rfl ?_
    exact HZ.out.fin (⟨HK.out.1.port, by show 80 < 65536; omega, HK.out.1.want, H2.out.2, by show 16 < 32; omega, by show 1000 < 65536; omega, by show 0 ≤ 360; omega⟩) (by omega) _ rfl
  · obtain ⟨y, hy⟩ : ∃ y, bhd c.want 1 = y := ⟨_, rfl⟩
    have hyl : y < 4294967296 := by rw [← hy]; exact bhd_lt _ _
    have e1 : bits .and .i64 ((c.want : Int) - 1) 4294967295 = (y : Int) := and_bhd c.want 1 HK.out.1.want (by omega) y hy
    have HY := Lib.hid (And.intro hyl e1)
    clear hyl e1 hy
    have c7 := (blk_cell H1.out.cn 7).trans (Cn.g7 c)
    have f2 := blk_free H1.out.sg 2
    have d2 : w1.cell? ⟨wb.heap.size, 2, none⟩ = some (.int .i64 c.want) := blk_cell H1.out.sg 2
    have d4 : w1.cell? ⟨wb.heap.size, 4, none⟩ = some (.int .i64 16) := blk_cell H1.out.sg 4
    have f4 := blk_free H1.out.sg 4
    go_wp2_with fail
    refine (l10Seq_is _ y HY.out.2 w1).mono ?_
    rintro e w2 ⟨rfl, rfl⟩
    go_upto_region 17 with (fail)
    obtain ⟨x0, hx0, Y0⟩ := H1.out.put ⟨c.port, 80, y, c.nxt, 16, 1000, ⟨#[]⟩⟩ 2 (.int .i64 y) rfl
    obtain ⟨x1, hx1, Y1⟩ := Y0.put ⟨c.port, 80, y, c.nxt, 2, 1000, ⟨#[]⟩⟩ 4 (.int .i64 2) rfl
    rw [hx0, hx1]
    clear hx0 hx1 c7 f2 d2 d4 f4
    have HZ := Lib.hid Y1
    clear Y0 Y1
    have d0 := blk_cell HZ.out.sg 0
    have d1 := blk_cell HZ.out.sg 1
    have d2 := blk_cell HZ.out.sg 2
    have d3 := blk_cell HZ.out.sg 3
    have d4 := blk_cell HZ.out.sg 4
    have d5 := blk_cell HZ.out.sg 5
    have d6 := blk_cell HZ.out.sg 6
    simp at d0 d1 d2 d3 d4 d5 d6
    go_wp2_with (refine wpList_store_row rfl _ _ 55 rfl wa.heap.size 55 _ _ rfl rfl HZ.out.rs rfl infoSg rfl ?_)
    refine bodyPost_ret (ret_cell rfl rfl (setRow_heap _ _ _ _ _ _ HZ.out.rs) Try.underlying55 rfl infoSg) rfl ?_
    exact HZ.out.fin (⟨HK.out.1.port, by show 80 < 65536; omega, HY.out.1, HK.out.1.nxt, by show 2 < 32; omega, by show 1000 < 65536; omega, by show 0 ≤ 360; omega⟩) (by omega) _ rfl
  · have q0 : ((r : Int) == 0) = false := by simp; omega
    have q1 : ((r : Int) == 1) = false := by simp; omega
    have q2 : ((r : Int) == 2) = false := by simp; omega
    have q3 : ((r : Int) == 3) = false := by simp; omega
    have q4 : ((r : Int) == 4) = false := by simp; omega
    have q5 : ((r : Int) == 5) = false := by simp; omega
    clear hr hr9
    go_upto_region 17 with (fail)
    have d0 := blk_cell H1.out.sg 0
    have d1 := blk_cell H1.out.sg 1
    have d2 := blk_cell H1.out.sg 2
    have d3 := blk_cell H1.out.sg 3
    have d4 := blk_cell H1.out.sg 4
    have d5 := blk_cell H1.out.sg 5
    have d6 := blk_cell H1.out.sg 6
    simp at d0 d1 d2 d3 d4 d5 d6
    go_wp2_with (refine wpList_store_row rfl _ _ 55 rfl wa.heap.size 55 _ _ rfl rfl H1.out.rs rfl infoSg rfl ?_)
    refine bodyPost_ret (ret_cell rfl rfl (setRow_heap _ _ _ _ _ _ H1.out.rs) Try.underlying55 rfl infoSg) rfl ?_
    exact H1.out.fin HK.out.2.2.2 (by omega) _ rfl
end Go.Proofs.Ytdenjmdngmmodaa
namespace Go.Proofs.Ytdenjmdngmmodaa
open Go.RowKit
set_option linter.unusedVariables false
set_option linter.unusedSimpArgs false
set_option maxRecDepth 200000
set_option maxHeartbeats 4000000

def srcφ (B : Nat) : Nat → Option Spec
  | 1 => some fun _ v w => ∃ g, v = .pointer (some ⟨g, 0, none⟩) ∧ B ≤ g ∧ Src w g 0
  | _ => none
theorem AnswerOf_ok (A : Option Addr) (k : Nat) (bs : List UInt8) (hl : bs.length ≤ 1099511627776) (c : Cn) (hc : CnOK c) (w : World) (hr : Rd w A (bs.map bV)) :
    Calls Try.prog 45 #[.slice A bs.length k, .agg c.cells] w fun e w' => ∃ v, e = .returned v ∧ AnV v ∧ Below w.heap.size w w' := by
  have HK := Lib.hid (And.intro hl (And.intro hc hr))
  clear hl hc hr
  go_enter Try.func45, Try.ntmps45
  go_wp2_with fail
  generalize hw0 : World.alloc w (.cells c.cells 48) = wa
  have hblk : wa.heap[World.heap w |>.size]? = some (.cells c.cells 48 (0, 0)) := by rw [← hw0]; exact heap_alloc_new _ _
  have hlt : (World.heap w).size < wa.heap.size := (Array.getElem?_eq_some_iff.1 hblk).1
  have hB0 : Below (World.heap w).size w wa := by rw [← hw0]; exact (Below.refl _ _).alloc (Nat.le_refl _) _
  have hsz : (World.heap wa).size = (World.heap w).size + 1 := by rw [← hw0]; simp
  clear hw0
  rw [← hsz]
  have X1 := And.intro hblk (And.intro hlt hB0)
  clear hblk hlt hB0 hsz
  generalize hw0 : World.alloc wa (.cells #[.int .i64 0, .int .i64 0, .int .i64 0, .int .i64 0, .int .i64 0, .int .i64 0, .string ⟨#[]⟩] 55) = wb
  have hblk : wb.heap[World.heap wa |>.size]? = some (.cells #[.int .i64 0, .int .i64 0, .int .i64 0, .int .i64 0, .int .i64 0, .int .i64 0, .string ⟨#[]⟩] 55 (0, 0)) := by rw [← hw0]; exact heap_alloc_new _ _
  have hlt : (World.heap wa).size < wb.heap.size := (Array.getElem?_eq_some_iff.1 hblk).1
  have hB0 : Below (World.heap wa).size wa wb := by rw [← hw0]; exact (Below.refl _ _).alloc (Nat.le_refl _) _
  clear hw0
  have HX := Lib.hid (And.intro ((hB0.block _ X1.2.1).trans X1.1) (And.intro (Nat.lt_of_lt_of_le X1.2.1 hB0.size) (And.intro hblk (And.intro hlt (And.intro (LeB.tr X1.2.2 hB0) X1.2.2.size)))))
  clear X1 hblk hlt hB0
  refine wp_region_lex 3 (by kernel_rfl) (by kernel_rfl) (JB wb) LeB (srcφ wb.heap.size) ?_ JB.mono ?_ ?_
  · intro j sp x v W W' hj hL h
    unfold srcφ at hj
    split at hj
    · cases hj
      obtain ⟨g, q1, q2, q3⟩ := h
      exact ⟨g, q1, q2, q3.below hL q3.lt⟩
    · cases hj
  · exact (Below.refl _ _).drew
  simp only [List.take_succ_cons, List.take_zero, List.drop_succ_cons, List.drop_zero, pairs, List.zipIdx_cons, List.zipIdx_nil, List.map_cons, List.map_nil, Nat.zero_add, Nat.reduceAdd]
  (repeat (refine lex_pure rfl rfl (fun K hK => ?_); go_simp; refine hK _ ?_; clear hK K; try simp (disch := omega) only [IntWalk.i64_in, IntWalk.u8_in, Int.add_sub_cancel, Int.tmod_eq_emod_of_nonneg, Int.tdiv_eq_ediv_of_nonneg]))
  refine lex_eff' (sp := fun _ v W => ∃ g, v = .pointer (some ⟨g, 0, none⟩) ∧ wb.heap.size ≤ g ∧ Src W g 0) rfl rfl (by intro _ _ _ _ h; exact h) (fun m W hJ hF => ?_) (fun v x hh => ?_) rfl
  · refine gives_call Try.call49 ((l00Source_ok A k bs HK.out.1 W (HK.out.2.2.below (LeB.tr HX.out.2.2.2.2.1 hJ) (Nat.le_refl _))).mono ?_)
    rintro e w' ⟨rfl, hs, h4⟩
    exact ⟨_, rfl, hJ.step h4, h4, _, rfl, hJ.size, hs⟩
  obtain ⟨_, _, -, ⟨g, rfl, -, -⟩, -⟩ := hh
  refine lex_load rfl rfl (.agg (Cn.cells c)) (fun m W hJ hF => run_exec_load rfl rfl ((hJ.block _ HX.out.2.1).trans HX.out.1) Try.underlying48 rfl infoCn) ?_
  refine lex_nil (fun m W hJ hF => ?_)
  obtain ⟨g', hg', hgB, hsrc⟩ := hF 1 rfl _ _ _ rfl rfl
  cases hg'
  have HY := Lib.hid (And.intro hgB (And.intro hsrc hJ))
  clear hF hJ hgB hsrc
  go_wp2_with fail
  refine (answer_ok g 0 c HK.out.2.1 W HY.out.2.1 (by omega)).mono ?_
  rintro e w5 ⟨v, rfl, hv, hs5, hg5⟩
  obtain ⟨sg, rfl, hok⟩ := hv
  have hne : some wa.heap.size ≠ some g := by intro e; injection e with e; have := HY.out.1; have := HX.out.2.2.2.1; omega
  have hrs := (hg5.block _ (Nat.lt_of_lt_of_le HX.out.2.2.2.1 HY.out.2.2.size) hne).trans ((HY.out.2.2.block _ HX.out.2.2.2.1).trans HX.out.2.2.1)
  have L5 : Below w.heap.size w w5 := Below.grown (LeB.tr HX.out.2.2.2.2.1 HY.out.2.2) hg5 (LeB.tr HX.out.2.2.2.2.1 HY.out.2.2).size (fun k e => by cases e; exact Nat.le_trans HX.out.2.2.2.2.1.size HY.out.1)
  have HZ := Lib.hid (And.intro hrs (And.intro hok L5))
  clear hrs hok L5 hne hs5 hg5
  go_wp2_with (refine wpList_store_row rfl _ _ 55 rfl wa.heap.size 55 _ _ rfl rfl HZ.out.1 rfl infoSg rfl ?_)
  refine bodyPost_ret (ret_cell rfl rfl (setRow_heap _ _ _ _ _ _ HZ.out.1) Try.underlying55 rfl infoSg) rfl ?_
  exact ⟨_, rfl, ⟨sg, rfl, HZ.out.2.1⟩, below_setRow HZ.out.2.2 HX.out.2.2.2.2.2 _⟩
end Go.Proofs.Ytdenjmdngmmodaa
namespace Go.Proofs.Ytdenjmdngmmodaa
open Go.RowKit
set_option linter.unusedVariables false
set_option linter.unusedSimpArgs false
set_option maxRecDepth 20000
set_option maxHeartbeats 600000

/-- Within a draw from source g: each step draws at most 60 bytes. -/
def JG (w0 : World) (g : Nat) (N : Int) (n0 m : Nat) (w : World) : Prop := w0.grownBy w (some g) ∧ Src w g (N + 60 * ((n0 : Int) - m))
def LeGs (g : Nat) (w w' : World) : Prop := w.grownBy w' (some g)
theorem JG.mono {w0 : World} {g n0 : Nat} {N : Int} (m : Nat) (w : World) (h : JG w0 g N n0 (m + 1) w) : JG w0 g N n0 m w := ⟨h.1, h.2.more (by omega)⟩
theorem JG.step {w0 w w' : World} {g n0 m : Nat} {N : Int} (h : JG w0 g N n0 (m + 1) w) (hg : w.grownBy w' (some g)) {M : Int} (hs : Src w' g M) (hM : M ≤ N + 60 * ((n0 : Int) - m)) : JG w0 g N n0 m w' := ⟨grown_trans h.1 hg, hs.more hM⟩
theorem JG.below {w0 w w' : World} {g n0 m : Nat} {N : Int} (h : JG w0 g N n0 (m + 1) w) (hb : LeB w w') : JG w0 g N n0 m w' := h.step (grownBy_of_below hb _) (h.2.below hb h.2.lt) (by omega)
theorem JG.start {w0 : World} {g n0 : Nat} {N : Int} (h : Src w0 g N) : JG w0 g N n0 n0 w0.drew := ⟨grownBy_of_below ((Below.refl _ _).drew) _, (h.below ((Below.refl _ _).drew) h.lt).more (by omega)⟩
def RowG (g n : Nat) (vs : List Value) : Spec := fun _ v w => ∃ b, v = .slice (some ⟨b, 0, none⟩) n n ∧ b ≠ g ∧ Rd w (some ⟨b, 0, none⟩) vs
theorem RowG.st {g n : Nat} {vs : List Value} {x : Array Value} {v : Value} {w w' : World} (hL : LeGs g w w') (h : RowG g n vs x v w) : RowG g n vs x v w' := by
  obtain ⟨b, h1, h2, h3⟩ := h
  exact ⟨b, h1, h2, h3.grown hL fun ad e h => h2 (by cases e; injection h with h; exact h.symm)⟩
def CnSp : Spec := fun _ v _ => ∃ (d : Cn) (v2 : Value), v = .tuple #[.agg d.cells, v2] ∧ CnOK d
def sayφ (g : Nat) (vs : List Value) (bs : List Value) : Nat → Option Spec
  | 2 => some (RowG g 250 bs)
  | 4 => some (RowG g 3 vs)
  | 5 => some fun _ v _ => ∃ s : ByteArray, v = .string s ∧ s.size ≤ 300
  | 6 => some CnSp
  | _ => none
theorem sayφ_st {g : Nat} {vs bs : List Value} : ∀ j sp x v w w', sayφ g vs bs j = some sp → LeGs g w w' → sp x v w → sp x v w' := by
  intro j sp x v w w' hj hL h
  unfold sayφ at hj
  split at hj
  · cases hj; exact RowG.st hL h
  · cases hj; exact RowG.st hL h
  · cases hj; exact h
  · cases hj; exact h
  · cases hj
def ansφ : Nat → Option Spec
  | 3 => some fun _ v _ => ∃ sg : Sg, v = .agg sg.cells ∧ SegOK sg.src sg.dst sg.seq sg.ack sg.flags sg.space sg.data
  | 4 => some CnSp
  | _ => none
theorem ansφ_st {g : Nat} : ∀ j sp x v w w', ansφ j = some sp → LeGs g w w' → sp x v w → sp x v w' := by
  intro j sp x v w w' hj hL h
  unfold ansφ at hj
  split at hj
  · cases hj; exact h
  · cases hj; exact h
  · cases hj
theorem grown_setRowB {a w : World} {row : Option Nat} (h : a.grownBy w row) {b : Nat} (hb : a.heap.size ≤ b) (cs : Array Value) : a.grownBy (w.setRow b cs) row :=
  ⟨h.os, h.tape, h.output, by simpa [World.setRow] using h.size, fun k hk hne => (setRow_other w b k cs (by omega)).trans (h.block k hk hne)⟩
theorem src_setRow {w : World} {g : Nat} {N : Int} (h : Src w g N) {b : Nat} (hb : g < b) (cs : Array Value) : Src (w.setRow b cs) g N := h.keep fun k hk => setRow_other w b k cs (by omega)
/-- conn's loop: the connection's block, the source, what has turned. -/
structure CoR (w0 w : World) (g : Nat) (N : Int) (b : Nat) (c : Cn) : Prop where
  cn : w.heap[b]? = some (.cells c.cells 48 (0, 0))
  ok : CnOK c
  src : Src w g N
  gr : w0.grownBy w (some g)
  gl : g < w0.heap.size
  hb : w0.heap.size ≤ b
theorem CoR.draw {w0 w W : World} {g b : Nat} {N M : Int} {c : Cn} (h : CoR w0 w g N b c) (hg : w.grownBy W (some g)) (hs : Src W g M) : CoR w0 W g M b c := by
  have k1 := (Array.getElem?_eq_some_iff.1 h.cn).1
  have hgl := h.gl
  exact ⟨(hg.block b k1 (by intro e; injection e with e; have := h.hb; omega)).trans h.cn, h.ok, hs, grown_trans h.gr hg, h.gl, h.hb⟩
theorem CoR.put {w0 w : World} {g b : Nat} {N : Int} {c : Cn} (h : CoR w0 w g N b c) (d : Cn) (hd : CnOK d) : CoR w0 (w.setRow b d.cells) g N b d := by
  have hgl := h.gl
  have hb := h.hb
  exact ⟨setRow_heap _ _ _ _ _ _ h.cn, hd, src_setRow h.src (by omega) _, grown_setRowB h.gr hb _, h.gl, h.hb⟩
end Go.Proofs.Ytdenjmdngmmodaa
