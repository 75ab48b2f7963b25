/- Flows: slices.DeleteFunc; the time comes, an owner goes. -/
import Derived.Test.YtdenjmdngmmodaaFlK
namespace Go.Proofs.Ytdenjmdngmmodaa
open Go.RowKit
set_option linter.unusedVariables false
set_option linter.unusedSimpArgs false
set_option maxRecDepth 200000
set_option maxHeartbeats 4000000

theorem idxC_at (q : Fl → Bool) (l : List Fl) (k : Nat) (h : idxC q l = k) : ∃ hk : k < l.length, q l[k] = true ∧ ∀ j (hj : j < k), q (l[j]'(by omega)) = false := by
  induction l generalizing k with
  | nil => simp [idxC] at h
  | cons f l ih =>
    unfold idxC at h
    by_cases hf : q f = true
    · rw [if_pos hf] at h
      obtain rfl : k = 0 := by omega
      exact ⟨by simp, hf, fun j hj => absurd hj (Nat.not_lt_zero _)⟩
    · rw [if_neg hf] at h
      by_cases hn : idxC q l < 0
      · rw [if_pos hn] at h; omega
      · rw [if_neg hn] at h
        obtain ⟨k', rfl⟩ : ∃ k', k = k' + 1 := ⟨k - 1, by omega⟩
        obtain ⟨h1, h2, h3⟩ := ih k' (by omega)
        refine ⟨by simpa using h1, by simpa using h2, fun j hj => ?_⟩
        cases j with
        | zero => simpa using hf
        | succ j => simpa using h3 j (by omega)
theorem take_set_succ (M : List Fl) (i : Nat) (h : i < M.length) (f : Fl) : (M.set i f).take (i + 1) = M.take i ++ [f] := by
  rw [List.take_succ_eq_append_getElem (by simpa using h), List.getElem_set_self, List.take_set_of_le (Nat.le_refl _)]
theorem PredF.later {g : FuncId} {lb : Array Value} {q : Fl → Bool} {w w' : World} (h : PredF g lb q w) (hB : LeB w w') : PredF g lb q w' := fun W f hW => h W f (LeB.tr hB hW)
theorem OwnAt.row {w0 w : World} {g c : Nat} {l : List Fl} (h : OwnAt w0 w g c l) (k : Nat) (hk : k < l.length) (f : Fl) : ∃ cur W, w.heap[g]? = some (.cells cur 73 (0, 0)) ∧ k * 9 + f.cells.size ≤ cur.size ∧ w.setRow g (layC cur (k * 9) f.cells.toList) = W ∧ OwnAt w0 W g c (l.set k f) := by
  obtain ⟨cur, hb, hs, hh⟩ := h.ex
  have hc := h.hc
  have h9 : f.cells.size = 9 := rfl
  have hz : k * 9 + f.cells.toList.length ≤ cur.size := by show k * 9 + 9 ≤ _; rw [hs]; omega
  exact ⟨cur, _, hb, by rw [h9, hs]; omega, rfl, ⟨_, setRow_heap _ _ _ _ _ _ hb, by rw [layC_size _ _ _ hz, hs], hh.set flc_len k hk f⟩, h.hg, by rw [List.length_set]; exact hc, h.hm, below_setRow h.bl h.hg _⟩
theorem DeleteFunc_ok {w0 w : World} {A : Option Addr} {c : Nat} {l : List Fl} (g0 : FuncId) (lb : Array Value) (q : Fl → Bool) (hown : w.ownsRow w0.heap.size 73 9 (.slice A l.length c) l.length (rowC flc l)) (hB : LeB w0 w) (hc : l.length ≤ c) (hl : l.length ≤ 1000) (hp : PredF g0 lb q w0)
    (eg : ∀ args w, (callFunc g0 args).run Try.prog w = .ok (.enter g0 args) w) :
    Calls Try.prog 134 #[.slice A l.length c, .func (.func g0) #[] lb] w fun e w' => ∃ v, e = .returned v ∧ w'.ownsRow w0.heap.size 73 9 v (l.filter fun f => !q f).length (rowC flc (l.filter fun f => !q f)) ∧ LeB w0 w' := by
  have HK := Lib.hid (And.intro hown (And.intro hB hl))
  have hlI : (l.length : Int) ≤ 1000 := by omega
  have hcI : (l.length : Int) ≤ c := by omega
  clear hown hB
  go_enter Try.func134, Try.ntmps134
  go_wp2_with fail
  refine (IndexFunc_ok g0 lb q A c l (by omega) hc w (Rd.of_own HK.out.1) (hp.later HK.out.2.1) eg).mono ?_
  rintro e w1 ⟨rfl, hB1⟩
  have hge := idxC_ge q l
  have hneg := idxC_neg q l
  have hpre : ∀ k : Nat, idxC q l = k → ∃ h : k < l.length, q l[k] = true ∧ ∀ j (hj : j < k), q (l[j]'(by omega)) = false := idxC_at q l
  obtain ⟨k0, hk0⟩ : ∃ k, idxC q l = k := ⟨_, rfl⟩
  rw [hk0] at hge hneg hpre ⊢
  have H1 := Lib.hid (And.intro (own_belowR HK.out.1 hB1) (LeB.tr HK.out.2.1 hB1))
  clear hk0 hB1
  by_cases hm : k0 = -1
  · subst hm
    have hall := hneg.1 rfl
    have HA := Lib.hid (show (l.filter fun f => !q f) = l from List.filter_eq_self.2 fun f hf => by rw [hall f hf]; rfl)
    clear hge hneg hpre hall
    go_wp2_with fail
    go_ret
    rw [HA.out]
    exact ⟨_, rfl, H1.out.1, H1.out.2⟩
  · obtain ⟨k, rfl⟩ := Int.eq_ofNat_of_zero_le (show 0 ≤ k0 by omega)
    obtain ⟨hkl, hq, hbef⟩ := hpre k rfl
    have hmI : ((k : Int) == -1) = false := by simp only [beq_eq_false_iff_ne]; omega
    have hklI : (k : Int) < l.length := by omega
    obtain ⟨g, rfl, hO⟩ := OwnAt.of H1.out.1 (by intro e; rw [e] at hkl; simp at hkl) H1.out.2
    have htk : l.take k = (l.take (k + 1)).filter fun f => !q f := by
      rw [List.take_succ_eq_append_getElem hkl, List.filter_append, List.filter_cons_of_neg (by simp [hq]), List.filter_nil, List.append_nil]
      exact (List.filter_eq_self.2 fun f hf => by
        obtain ⟨j, hj, rfl⟩ := List.getElem_of_mem hf
        have hjk : j < k := by simp at hj; omega
        rw [List.getElem_take, hbef j hjk]
        rfl).symm
    have H2 := Lib.hid (And.intro hO (And.intro htk hkl))
    clear hge hneg hpre hm hq hbef hO htk
    go_wp2_with fail
    go_loopw [5, 6] (fun iv jv wr => ∃ (i j : Nat) (M : List Fl), iv = .int .i64 i ∧ jv = .int .i64 j ∧ i < j ∧ j ≤ l.length ∧ M.length = l.length ∧ OwnAt w0 wr g c M ∧ M.take i = (l.take j).filter (fun f => !q f) ∧ M.drop j = l.drop j) (fun _ jv _ => (l.length - (intOf jv).toNat))
    case atStart => exact ⟨k, k + 1, l, rfl, by go_num, by omega, by have := H2.out.2.2; omega, rfl, H2.out.1, H2.out.2.1, rfl⟩
    case round =>
      obtain ⟨i, j, M, rfl, rfl, hij, hjl, hML, hOM, htM, hdM⟩ := hrel
      have hijI : (i : Int) < j := by omega
      have hil : i < l.length := by omega
      have hilI : (i : Int) < l.length := by omega
      have HM := Lib.hid (And.intro hML (And.intro hOM (And.intro htM hdM)))
      clear hML hOM htM hdM
      by_cases hj : j < l.length
      · have hjI : (j : Int) < l.length := by omega
        have hjM : j < M.length := by rw [HM.out.1]; exact hj
        have hMj : M[j] = l[j] := by
          have h1 : (M.drop j)[0]? = (l.drop j)[0]? := by rw [HM.out.2.2.2]
          simp [hjM, hj] at h1
          exact h1
        have q1 := HM.out.2.1.at_ j hjM
        rw [hMj] at q1
        have htk := List.take_succ_eq_append_getElem hj
        obtain ⟨f, hf⟩ : ∃ f, l[j] = f := ⟨_, rfl⟩
        rw [hf] at q1 htk
        have HF := Lib.hid htk
        clear hf htk hMj hjM
        obtain ⟨c0, c1, c2, c3, c4, c5, c6, c7, c8⟩ := q1
        go_upto_region 8 with (fail)
        clear c0 c1 c2 c3 c4 c5 c6 c7 c8
        generalize hw0 : World.alloc wr (.cells f.cells 73) = w3
        have hblk : w3.heap[World.heap wr |>.size]? = some (.cells f.cells 73 (0, 0)) := by rw [← hw0]; exact heap_alloc_new _ _
        have hlt : (World.heap wr).size < w3.heap.size := (Array.getElem?_eq_some_iff.1 hblk).1
        have hB0 : Below (World.heap wr).size wr w3 := by rw [← hw0]; exact (Below.refl _ _).alloc (Nat.le_refl _) _
        clear hw0
        have H3 := Lib.hid (And.intro hblk (And.intro hlt (HM.out.2.1.below hB0)))
        have p0 := blk_cell hblk 0
        have p1 := blk_cell hblk 1
        have p2 := blk_cell hblk 2
        have p3 := blk_cell hblk 3
        have p4 := blk_cell hblk 4
        have p5 := blk_cell hblk 5
        have p6 := blk_cell hblk 6
        have p7 := blk_cell hblk 7
        have p8 := blk_cell hblk 8
        simp at p0 p1 p2 p3 p4 p5 p6 p7 p8
        clear hblk hlt hB0
        have hcall := hp w3 f H3.out.2.2.bl
        cases hq : q f with
        | true =>
          rw [hq] at hcall
          go_wp2_with fail
          refine hcall.mono ?_
          rintro e w4 ⟨rfl, hB4⟩
          have H4 := Lib.hid (H3.out.2.2.below hB4)
          clear hB4 hcall p0 p1 p2 p3 p4 p5 p6 p7 p8
          go_wp2_with fail
          go_roundw
          case rel =>
            refine ⟨i, j + 1, M, rfl, by go_num, by omega, by omega, HM.out.1, H4.out, ?_, ?_⟩
            · rw [HM.out.2.2.1, HF.out, List.filter_append, List.filter_cons_of_neg (by simp [hq]), List.filter_nil, List.append_nil]
            · rw [← List.drop_drop, HM.out.2.2.2, List.drop_drop]
          case measure => simp [intOf]; omega
        | false =>
          rw [hq] at hcall
          go_wp2_with fail
          refine hcall.mono ?_
          rintro e w4 ⟨rfl, hB4⟩
          have hb4 := (hB4.block _ H3.out.2.1).trans H3.out.1
          obtain ⟨cur, W, hcur, hsz, hW, OW⟩ := (H3.out.2.2.below hB4).row i (by rw [HM.out.1]; exact hil) f
          have H4 := Lib.hid (And.intro hcur (And.intro hsz (And.intro hW OW)))
          clear hB4 hcall p0 p1 p2 p3 p4 p5 p6 p7 p8 hcur hsz hW OW
          have p0 := blk_cell hb4 0
          have p1 := blk_cell hb4 1
          have p2 := blk_cell hb4 2
          have p3 := blk_cell hb4 3
          have p4 := blk_cell hb4 4
          have p5 := blk_cell hb4 5
          have p6 := blk_cell hb4 6
          have p7 := blk_cell hb4 7
          have p8 := blk_cell hb4 8
          simp at p0 p1 p2 p3 p4 p5 p6 p7 p8
          clear hb4
          go_wp2_with (refine wpList_store_lay rfl _ _ 73 rfl g (i * 9) 73 cur f.cells rfl rfl H4.out.1 H4.out.2.1 infoFl rfl ?_)
          go_roundw
          case rel =>
            refine ⟨i + 1, j + 1, M.set i f, by go_num, by go_num, by omega, by omega, by rw [List.length_set]; exact HM.out.1, ?_, ?_, ?_⟩
            · have h := H4.out.2.2.2
              rw [← H4.out.2.2.1] at h
              exact h
            · rw [take_set_succ M i (by rw [HM.out.1]; exact hil) f, HM.out.2.2.1, HF.out, List.filter_append, List.filter_cons_of_pos (by simp [hq])]
              rfl
            · rw [List.drop_set_of_lt (by omega), ← List.drop_drop, HM.out.2.2.2, List.drop_drop]
          case measure => simp [intOf]; omega
      · obtain rfl : j = l.length := by omega
        have hci : ¬ c = i := by omega
        obtain ⟨cur, hb, hs, hh⟩ := HM.out.2.1.ex
        have hcl := fun ty => run_clear_lay (P := Try.prog) wr 64 73 ty (.agg flZero) Try.underlying64 flZ g (i * 9) (l.length - i) (c - i) 73 cur hb (by intro u hu; have h := flc_one ⟨0, ⟨#[]⟩, 0, 0, 0, 0, 0, 0, 0⟩ u hu; exact h) (by decide) (by rw [hs]; show i * 9 + (l.length - i) * 9 ≤ c * 9; omega)
        obtain ⟨W2, hW2, X2⟩ : ∃ x, wr.setRow g (layC cur (i * 9) (Builtin.zeroCells (Value.agg flZero).cells (l.length - i)).toList) = x ∧ OwnAt w0 x g c (M.take i) := by
          have hzl : (Builtin.zeroCells (Value.agg flZero).cells (l.length - i)).toList.length = (l.length - i) * 9 := by simp [Builtin.zeroCells]; rfl
          have hti : (M.take i).length = i := by rw [List.length_take, HM.out.1]; omega
          refine ⟨_, rfl, ⟨_, setRow_heap _ _ _ _ _ _ hb, ?_, ?_⟩, HM.out.2.1.hg, by rw [hti]; omega, HM.out.2.1.hm, below_setRow HM.out.2.1.bl HM.out.2.1.hg _⟩
          · rw [layC_size _ _ _ (by rw [hzl, hs]; omega), hs]
          · exact (hh.cut flc_len i (by rw [HM.out.1]; omega)).behind flc_len _ (by rw [hti]; exact Nat.le_refl _) _ (by rw [hs]; omega)
        rw [hW2] at hcl
        have hti : (M.take i).length = i := by rw [List.length_take, HM.out.1]; omega
        have X3 := X2.own
        rw [HM.out.2.2.1, List.take_length] at X3
        have hfi : (l.filter fun f => !q f).length = i := by rw [← hti, HM.out.2.2.1, List.take_length]
        rw [hfi] at X3
        have H2' := Lib.hid (And.intro X3 (And.intro X2.bl hfi))
        clear X2 hW2 hb hs hh hti X3 hfi
        go_wp2_with fail
        go_ret
        rw [H2'.out.2.2]
        exact ⟨_, rfl, H2'.out.1, H2'.out.2.1⟩
end Go.Proofs.Ytdenjmdngmmodaa
