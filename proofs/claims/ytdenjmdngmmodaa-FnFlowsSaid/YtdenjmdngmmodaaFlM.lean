/- Flows: one is found; one is opened, in a list of its own. -/
import Derived.Test.YtdenjmdngmmodaaFlK
namespace Go.Proofs.Ytdenjmdngmmodaa
open Go.RowKit
set_option linter.unusedVariables false
set_option linter.unusedSimpArgs false
set_option maxRecDepth 200000
set_option maxHeartbeats 4000000

theorem FlowFind_ok (A : Option Addr) (c : Nat) (l : List Fl) (hok : FlsOK l) (hc : l.length ≤ c) (p a ap b bp : Nat) (hp : p < 256) (ha : a < 4294967296) (hap : ap < 65536) (hb : b < 4294967296) (hbp : bp < 65536) (r : Int × Bool) (hR : findC l p a ap b bp = r) (w : World) (hr : Rd w A (rowC flc l)) :
    Calls Try.prog 41 #[.slice A l.length c, .int .i64 p, .int .i64 a, .int .i64 ap, .int .i64 b, .int .i64 bp] w fun e w' => e = .returned (if r.1 < 0 then .tuple #[.int .i64 0, .bool false, .int .i64 5] else .tuple #[.int .i64 r.1, .bool r.2, .int .i64 0]) ∧ LeB w w' := by
  have hll : l.length ≤ 8 := hok.len
  have HK := Lib.hid (And.intro hok (And.intro hr (And.intro hR (And.intro hc (And.intro hp (And.intro ha (And.intro hap (And.intro hb hbp))))))))
  clear hok hr hR hp ha hap hb hbp
  go_enter Try.func41, Try.ntmps41
  go_wp2_with fail
  refine (flowsFault_ok A c l HK.out.1 hc w HK.out.2.1).mono ?_
  rintro e w1 ⟨rfl, hB1⟩
  have H1 := Lib.hid hB1
  clear hB1
  go_wp2_with fail
  refine (isProto_ok p HK.out.2.2.2.2.1 _).mono ?_
  rintro e w1' ⟨rfl, rfl⟩
  go_wp2_with fail
  refine (isAddress_ok a HK.out.2.2.2.2.2.1 _).mono ?_
  rintro e w1' ⟨rfl, rfl⟩
  go_wp2_with fail
  refine (isAddress_ok b HK.out.2.2.2.2.2.2.2.1 _).mono ?_
  rintro e w1' ⟨rfl, rfl⟩
  go_wp2_with fail
  refine (isPort_ok ap HK.out.2.2.2.2.2.2.1 _).mono ?_
  rintro e w1' ⟨rfl, rfl⟩
  go_wp2_with fail
  refine (isPort_ok bp HK.out.2.2.2.2.2.2.2.2 _).mono ?_
  rintro e w1' ⟨rfl, rfl⟩
  go_wp2_with fail
  refine (find_ok A l.length c l rfl (by omega) hc p a ap b bp r HK.out.2.2.1 w1 (HK.out.2.1.below H1.out (Nat.le_refl _))).mono ?_
  rintro e w2 ⟨rfl, hB2⟩
  have H2 := Lib.hid (LeB.tr H1.out hB2)
  clear hB2
  obtain ⟨k, t⟩ := r
  dsimp only
  by_cases h0 : k < 0
  · go_wp2_with fail
    refine bodyPost_ret (v := .tuple #[.int .i64 0, .bool false, .int .i64 5]) (by simp [results, go_sem]) rfl ⟨rfl, H2.out⟩
  · have h0I : decide (k < 0) = false := decide_eq_false h0
    go_wp2_with fail
    refine bodyPost_ret (v := .tuple #[.int .i64 k, .bool t, .int .i64 0]) (by simp [results, go_sem]) rfl ⟨rfl, H2.out⟩
/-- Lists of their own stay what they are. -/
def KeepO (B : Nat) (l : List Fl) (w w' : World) : Prop := ∀ v, w.ownsRow B 73 9 v l.length (rowC flc l) → w'.ownsRow B 73 9 v l.length (rowC flc l)
theorem KeepO.of {B : Nat} {l : List Fl} {w w' : World} (h : LeB w w') : KeepO B l w w' := fun v hv => own_belowR hv h
theorem KeepO.tr {B : Nat} {l : List Fl} {w w1 w2 : World} (h : KeepO B l w w1) (k : KeepO B l w1 w2) : KeepO B l w w2 := fun v hv => k v (h v hv)
theorem keep_setRow {w : World} {B g : Nat} {cur cur' : Array Value} {M : List Fl} (hb : w.heap[g]? = some (.cells cur 73 (0, 0))) (hs : cur'.size = cur.size) (ht : cur.toList.take (M.length * 9) = rowC flc M → cur'.toList.take (M.length * 9) = rowC flc M) : KeepO B M w (w.setRow g cur') := by
  intro v hv
  obtain ⟨hlen, ⟨rfl, h0⟩ | ⟨g', cap, c', rfl, hB, hb', hc, hm, hs', ht'⟩⟩ := hv
  · exact ⟨hlen, .inl ⟨rfl, h0⟩⟩
  · by_cases hg : g' = g
    · subst hg
      rw [hb] at hb'
      cases hb'
      exact ⟨hlen, .inr ⟨g', cap, cur', rfl, hB, setRow_heap _ _ _ _ _ _ hb, hc, hm, by rw [hs]; exact hs', ht ht'⟩⟩
    · exact ⟨hlen, .inr ⟨g', cap, c', rfl, hB, (setRow_other w g g' cur' hg).trans hb', hc, hm, hs', ht'⟩⟩
/-- append of one flow to a list of its own. -/
theorem append_one {w0 w : World} {c : Nat} {A : Option Addr} {l : List Fl} (hown : w.ownsRow w0.heap.size 73 9 (.slice A l.length c) l.length (rowC flc l)) (hB : LeB w0 w) (x : Fl) (b2 c2 : Nat) (hr2 : Rd w (some ⟨b2, 0, none⟩) (rowC flc [x])) (hl : l.length ≤ 1000) :
    ∃ v' w', (Builtin.append_ #[64, 64] 64 #[.slice A l.length c, .slice (some ⟨b2, 0, none⟩) 1 c2]).run Try.prog w = .ok v' w' ∧ w'.ownsRow w0.heap.size 73 9 v' (l ++ [x]).length (rowC flc (l ++ [x])) ∧ LeB w0 w' ∧ KeepO w0.heap.size l w w' ∧ KeepO w0.heap.size (l ++ [x]) w w' := by
  have hown' := hown
  obtain ⟨hlen, ⟨e1, -⟩ | ⟨g, cap, cur, e1, hBg, hb, hc, hm, hs, ht⟩⟩ := hown
  · injection e1 with e1 _ _
    subst e1
    obtain ⟨v', w', h1, h2, h3⟩ := append_fl w w0.heap.size _ l hown' (some ⟨b2, 0, none⟩) c2 [x] hr2 (by simp; omega) hB.size
    have hL : LeB w w' := ⟨h3.os, h3.tape, h3.output, h3.size, fun k hk => h3.block k hk (by intro e; cases e)⟩
    exact ⟨v', w', h1, h2, LeB.tr hB hL, KeepO.of hL, KeepO.of hL⟩
  · cases e1
    obtain ⟨i, hi, hz, hsz, hby⟩ := info_parts info_fl
    have h9 : (rowC flc [x]).length = 9 := rowC_len flc_len [x]
    by_cases hroom : l.length + 1 ≤ c
    · have hsz2 : l.length * 9 + (rowC flc [x]).length ≤ cur.size := by rw [h9, hs]; omega
      have hrun := run_append_lay (P := Try.prog) w 64 64 73 i Try.underlying64 hi g l.length c 73 cur hb (some ⟨b2, 0, none⟩) 1 c2 (rowC flc [x]) (by rw [h9, hsz]) (by simp) hr2 (rowC_one flc_one _) hroom (by rw [hsz]; exact hsz2)
      rw [hsz] at hrun
      have hsl : (layC cur (l.length * 9) (rowC flc [x])).size = cur.size := layC_size _ _ _ hsz2
      have htl : (layC cur (l.length * 9) (rowC flc [x])).toList.take (l.length * 9) = rowC flc l := by
        rw [layC_list, ht, List.append_assoc, List.take_left' (rowC_len flc_len l)]
      have hty : (layC cur (l.length * 9) (rowC flc [x])).toList.take ((l ++ [x]).length * 9) = rowC flc (l ++ [x]) := by
        rw [layC_list, ht, ← rowC_app, List.take_left' (rowC_len flc_len _)]
      refine ⟨_, _, hrun, ⟨rowC_len flc_len _, .inr ⟨g, c, _, by rw [List.length_append]; rfl, hBg, setRow_heap _ _ _ _ _ _ hb, by simpa using hroom, hm, by rw [hsl, hs], hty⟩⟩, below_setRow hB hBg _, keep_setRow hb hsl (fun _ => htl), keep_setRow hb hsl (fun _ => hty)⟩
    · obtain ⟨v', w', hrun, ho, hg⟩ := run_append_arg_grows (P := Try.prog) w 64 64 73 i _ 9 80 Try.underlying64 hi hz hsz hby rfl (by omega) ⟨g, 0, none⟩ l.length c (rowC flc l) hlen (fun j u hu => by
          obtain ⟨ad', e1, h⟩ := (Rd.of_own hown') j u hu
          cases e1
          exact h) ⟨b2, 0, none⟩ 1 c2 (rowC flc [x]) h9 (fun j u hu => by
          obtain ⟨ad', e1, h⟩ := hr2 j u hu
          cases e1
          exact h) (by omega) (by simp only [maxLen]; omega) (by omega)
      have hL : LeB w w' := ⟨hg.os, hg.tape, hg.output, hg.size, fun k hk => hg.block k hk (by simp)⟩
      exact ⟨v', w', hrun, by rw [List.length_append, rowC_app]; exact own_base ho hB.size, LeB.tr hB hL, KeepO.of hL, KeepO.of hL⟩
/-- What opening makes of a list, and its code. -/
def openC (l : List Fl) (f : Fl) (now : Nat) : Int × List Fl :=
  if (findC l f.proto f.sip f.sport f.dip f.dport).1 < 0 then (if l.length = 8 then (7, l) else (0, l ++ [openF f now])) else (9, l)
theorem flowOpen_ok {w0 w : World} {A : Option Addr} {c : Nat} {l : List Fl} (hown : w.ownsRow w0.heap.size 73 9 (.slice A l.length c) l.length (rowC flc l)) (hB : LeB w0 w) (hc : l.length ≤ c) (hl : l.length ≤ 8) (f : Fl) (now : Nat) (hn : now ≤ 100000) (r : Int × List Fl) (hR : openC l f now = r) :
    Calls Try.prog 95 #[.slice A l.length c, .agg f.cells, .int .i64 now] w fun e w' => LeB w0 w' ∧ KeepO w0.heap.size l w w' ∧ KeepO w0.heap.size r.2 w w' ∧ ∃ v, e = .returned (.tuple #[v, .int .i64 r.1]) ∧ w'.ownsRow w0.heap.size 73 9 v r.2.length (rowC flc r.2) := by
  have HK := Lib.hid (And.intro hown (And.intro hB (And.intro hR hl)))
  have hnI : (now : Int) ≤ 100000 := by omega
  clear hown hB hR
  go_enter Try.func95, Try.ntmps95
  go_upto_region 1 with (fail)
  generalize hw0 : World.alloc w (.cells f.cells 73) = wa
  have hblk : wa.heap[World.heap w |>.size]? = some (.cells f.cells 73 (0, 0)) := by rw [← hw0]; exact heap_alloc_new _ _
  have hlt : (World.heap w).size < wa.heap.size := (Array.getElem?_eq_some_iff.1 hblk).1
  have hB0 : Below (World.heap w).size w wa := by rw [← hw0]; exact (Below.refl _ _).alloc (Nat.le_refl _) _
  clear hw0
  have HX := Lib.hid (And.intro hblk (And.intro hlt hB0))
  have q0 := blk_cell hblk 0
  have q1 := blk_cell hblk 1
  have q2 := blk_cell hblk 2
  have q3 := blk_cell hblk 3
  have q4 := blk_cell hblk 4
  have q5 := blk_cell hblk 5
  have q6 := blk_cell hblk 6
  have q7 := blk_cell hblk 7
  have q8 := blk_cell hblk 8
  simp at q0 q1 q2 q3 q4 q5 q6 q7 q8
  clear hblk hlt hB0
  obtain ⟨fr, hfr⟩ : ∃ x, findC l f.proto f.sip f.sport f.dip f.dport = x := ⟨_, rfl⟩
  have HF := Lib.hid hfr
  go_wp2_with fail
  refine (find_ok A l.length c l rfl (by omega) hc f.proto f.sip f.sport f.dip f.dport fr hfr wa ((Rd.of_own HK.out.1).below HX.out.2.2 (Nat.le_refl _))).mono ?_
  rintro e w1 ⟨rfl, hB1⟩
  have hb1 := (hB1.block _ HX.out.2.1).trans HX.out.1
  have L1 : LeB w w1 := LeB.tr HX.out.2.2 hB1
  have H1 := Lib.hid (And.intro L1 (And.intro (own_belowR HK.out.1 L1) hb1))
  clear q0 q1 q2 q3 q4 q5 q6 q7 q8 hB1 hb1 L1 hfr
  obtain ⟨k, t⟩ := fr
  dsimp only
  by_cases h0 : k < 0
  · have hr := HK.out.2.2.1
    unfold openC at hr
    rw [HF.out, if_pos h0] at hr
    by_cases h8 : l.length = 8
    · rw [if_pos h8] at hr
      have HR := Lib.hid hr
      clear hr
      have h8I : (l.length : Int) = 8 := by omega
      have H8 := Lib.hid h8
      clear h8
      go_wp2_with fail
      refine bodyPost_ret (v := .tuple #[.slice A l.length c, .int .i64 7]) (by simp [results, go_sem]) rfl ⟨LeB.tr HK.out.2.1 H1.out.1, KeepO.of H1.out.1, KeepO.of H1.out.1, ?_⟩
      rw [← HR.out]
      exact ⟨_, rfl, H1.out.2.1⟩
    · rw [if_neg h8] at hr
      have HR := Lib.hid hr
      clear hr
      have h8I : ((l.length : Int) == 8) = false := by simp only [beq_eq_false_iff_ne]; omega
      clear h8
      have c0 : w1.cell? ⟨w.heap.size, 0, none⟩ = some (.int .i64 f.proto) := blk_cell H1.out.2.2 0
      have c6 : w1.cell? ⟨w.heap.size, 6, none⟩ = some (.int .i64 f.st) := blk_cell H1.out.2.2 6
      have c7 : w1.cell? ⟨w.heap.size, 7, none⟩ = some (.int .i64 f.til) := blk_cell H1.out.2.2 7
      have f6 := blk_free H1.out.2.2 6
      have f7 := blk_free H1.out.2.2 7
      go_wp2_with fail
      refine (flowWait_ok f.proto 1 w1).mono ?_
      rintro e w1' ⟨rfl, rfl⟩
      obtain ⟨wt, hwt⟩ : ∃ x, waitC f.proto 1 = x := ⟨_, rfl⟩
      have hwl : wt ≤ 30 := by rw [← hwt]; exact waitC_le _ _
      rw [hwt]
      have HW := Lib.hid hwt
      clear hwt
      go_upto_region 7 with (fail)
      obtain ⟨x0, hx0, hb0, hL0, hz0⟩ := blk_put (w0 := w) (k := 6) (u := .int .i64 1) H1.out.2.2 H1.out.1 (Nat.le_refl _) (cells_st f 1)
      obtain ⟨x1, hx1, hb1, hL1, hz1⟩ := blk_put (k := 7) (u := .int .i64 ((now : Int) + wt)) hb0 hL0 (Nat.le_refl _) (cells_til { f with st := 1 } (now + wt))
      rw [hx0, hx1]
      have hof : openF f now = { f with st := 1, til := now + wt } := by unfold openF; rw [HW.out]
      have H5 := Lib.hid (And.intro hb1 (And.intro hL1 (And.intro (own_belowR HK.out.1 hL1) hof)))
      clear hx0 hx1 hb0 hL0 hL1 hz0 hz1 hof c0 c6 c7 f6 f7
      have q0 := blk_cell hb1 0
      have q1 := blk_cell hb1 1
      have q2 := blk_cell hb1 2
      have q3 := blk_cell hb1 3
      have q4 := blk_cell hb1 4
      have q5 := blk_cell hb1 5
      have q6 := blk_cell hb1 6
      have q7 := blk_cell hb1 7
      have q8 := blk_cell hb1 8
      simp at q0 q1 q2 q3 q4 q5 q6 q7 q8
      clear hb1
      go_wp2_with (at_builtin; refine Hid.out ?_)
      refine Lib.hid ?_
      clear q0 q1 q2 q3 q4 q5 q6 q7 q8
      have hB2 : LeB x1 (x1.alloc (.cells (Fl.cells { f with st := 1, til := now + wt }) 73)) := (Below.refl _ _).alloc (Nat.le_refl _) _
      have hrd : Rd (x1.alloc (.cells (Fl.cells { f with st := 1, til := now + wt }) 73)) (some ⟨x1.heap.size, 0, none⟩) (rowC flc [{ f with st := 1, til := now + wt }]) := by simpa [rowC, flc] using Rd.block (heap_alloc_new x1 (.cells (Fl.cells { f with st := 1, til := now + wt }) 73)) 0
      obtain ⟨v3, w3, hrun, hown3, hL3, hk1, hk2⟩ := append_one (w0 := w0) (own_belowR H5.out.2.2.1 hB2) (LeB.tr HK.out.2.1 (LeB.tr H5.out.2.1 hB2)) { f with st := 1, til := now + wt } x1.heap.size 1 hrd (by omega)
      refine wpList_append_run rfl _ _ _ _ rfl rfl rfl hrun ?_
      have hk3 : KeepO w0.heap.size (l ++ [openF f now]) (x1.alloc (.cells (Fl.cells { f with st := 1, til := now + wt }) 73)) w3 := by rw [H5.out.2.2.2]; exact hk2
      have hown4 : w3.ownsRow w0.heap.size 73 9 v3 (l ++ [openF f now]).length (rowC flc (l ++ [openF f now])) := by rw [H5.out.2.2.2]; exact hown3
      have LL : LeB w (x1.alloc (.cells (Fl.cells { f with st := 1, til := now + wt }) 73)) := LeB.tr H5.out.2.1 hB2
      have H6 := Lib.hid (And.intro hown4 (And.intro hL3 (And.intro (KeepO.tr (KeepO.of LL) hk1) (KeepO.tr (KeepO.of LL) hk3))))
      clear hrun hown3 hown4 hL3 hk1 hk2 hk3 LL hB2 hrd
      go_wp2_with fail
      refine bodyPost_ret (v := .tuple #[v3, .int .i64 0]) (by simp [results, go_sem]) rfl ?_
      rw [← HR.out]
      exact ⟨H6.out.2.1, H6.out.2.2.1, H6.out.2.2.2, v3, rfl, H6.out.1⟩
  · have hr := HK.out.2.2.1
    unfold openC at hr
    rw [HF.out, if_neg h0] at hr
    have HR := Lib.hid hr
    clear hr
    have h0I : (0 : Int) ≤ k := by omega
    go_wp2_with fail
    refine bodyPost_ret (v := .tuple #[.slice A l.length c, .int .i64 9]) (by simp [results, go_sem]) rfl ⟨LeB.tr HK.out.2.1 H1.out.1, KeepO.of H1.out.1, KeepO.of H1.out.1, ?_⟩
    rw [← HR.out]
    exact ⟨_, rfl, H1.out.2.1⟩
end Go.Proofs.Ytdenjmdngmmodaa
