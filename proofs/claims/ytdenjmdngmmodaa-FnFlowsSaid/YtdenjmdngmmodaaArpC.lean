/- Questions for macs: the calls, and the reading. -/
import Derived.Test.YtdenjmdngmmodaaArpB
namespace Go.Proofs.Ytdenjmdngmmodaa
open Go.RowKit
set_option linter.unusedVariables false
set_option linter.unusedSimpArgs false
set_option maxRecDepth 20000
set_option maxHeartbeats 1000000

theorem iArpBytes_ok (op : Nat) (sm dm : ByteArray) (si di : Nat) (h : ArpOK op sm dm si di) (w : World) :
    Calls Try.prog 14 #[.agg #[.int .i64 op, .string sm, .string dm, .int .i64 si, .int .i64 di]] w fun e w' => ∃ v, e = .returned (.tuple #[v, .int .i64 0]) ∧ w'.ownsRow w.heap.size 5 1 v (arpB op sm dm si di).length ((arpB op sm dm si di).map bV) ∧ Below w.heap.size w w' := by
  have HK := Lib.hid h
  clear h
  go_enter Try.func14, Try.ntmps14
  go_wp2_with fail
  generalize hw0 : World.alloc w (.cells #[.int .i64 op, .string sm, .string dm, .int .i64 si, .int .i64 di] 31) = w0
  have hblk : w0.heap[World.heap w |>.size]? = some (.cells #[.int .i64 op, .string sm, .string dm, .int .i64 si, .int .i64 di] 31 (0, 0)) := by rw [← hw0]; exact heap_alloc_new _ _
  have hlt : (World.heap w).size < w0.heap.size := (Array.getElem?_eq_some_iff.1 hblk).1
  have hB0 : Below (World.heap w).size w w0 := by rw [← hw0]; exact (Below.refl _ _).alloc (Nat.le_refl _) _
  clear hw0
  refine (arpOK_true op sm dm si di HK.out _).mono ?_
  rintro e w1 ⟨rfl, hB1⟩
  have hblk1 := (hB1.block _ hlt).trans hblk
  have hB := Below.trans hB0 (hB1.mono hB0.size)
  have c0 := blk_cell hblk1 0
  have c1 := blk_cell hblk1 1
  have c2 := blk_cell hblk1 2
  have c3 := blk_cell hblk1 3
  have c4 := blk_cell hblk1 4
  clear hblk hblk1
  simp at c0 c1 c2 c3 c4
  go_wp2_with fail
  refine (arpBytes_ok op sm dm si di (by have := HK.out.op2; omega) HK.out.sip HK.out.dip (by have := HK.out.smac; have := HK.out.dmac; omega) _).mono ?_
  rintro e w2 ⟨v, rfl, hown, hB2⟩
  have hB' := Below.trans hB (hB2.mono hB.size)
  have hown1 := own_base hown (B' := w.heap.size) hB.size
  have HO := Lib.hid hown1
  clear hown hown1 hB2 c0 c1 c2 c3 c4
  go_wp2
  go_ret2
  exact ⟨_, rfl, HO.out, hB'⟩

theorem sArpBytes_ok (op : Nat) (sm dm : ByteArray) (si di : Nat) (h : ArpOK op sm dm si di) (w : World) :
    Calls Try.prog 15 #[.agg #[.int .i64 op, .string sm, .string dm, .int .i64 si, .int .i64 di]] w fun e w' => ∃ v, e = .returned (.tuple #[v, .int .i64 0]) ∧ BsSp (arpB op sm dm si di) #[] v w' ∧ Below w.heap.size w w' := by
  have HK := Lib.hid h
  clear h
  go_enter Try.func15, Try.ntmps15
  go_wp2_with fail
  generalize hw0 : World.alloc w (.cells #[.int .i64 op, .string sm, .string dm, .int .i64 si, .int .i64 di] 31) = w0
  have hblk : w0.heap[World.heap w |>.size]? = some (.cells #[.int .i64 op, .string sm, .string dm, .int .i64 si, .int .i64 di] 31 (0, 0)) := by rw [← hw0]; exact heap_alloc_new _ _
  have hlt : (World.heap w).size < w0.heap.size := (Array.getElem?_eq_some_iff.1 hblk).1
  have hB0 : Below (World.heap w).size w w0 := by rw [← hw0]; exact (Below.refl _ _).alloc (Nat.le_refl _) _
  clear hw0
  refine (l02Arp_true op sm dm si di HK.out _).mono ?_
  rintro e w1 ⟨rfl, hB1⟩
  have hblk1 := (hB1.block _ hlt).trans hblk
  have hB := Below.trans hB0 (hB1.mono hB0.size)
  have c0 := blk_cell hblk1 0
  have c1 := blk_cell hblk1 1
  have c2 := blk_cell hblk1 2
  have c3 := blk_cell hblk1 3
  have c4 := blk_cell hblk1 4
  clear hblk hblk1
  simp at c0 c1 c2 c3 c4
  go_wp2_with fail
  refine (l02ArpBytes_ok op sm dm si di (by have := HK.out.op2; omega) HK.out.sip HK.out.dip (by have := HK.out.smac; have := HK.out.dmac; omega) _).mono ?_
  rintro e w2 ⟨rfl, hB2⟩
  have hB' := Below.trans hB (hB2.mono hB.size)
  obtain ⟨v, w3, h1, h2, h3⟩ := conv_sb w2 (bstr (arpB op sm dm si di))
  have hB'' := Below.trans hB' (h3.mono hB'.size)
  have H2 := Lib.hid h2
  clear h2 c0 c1 c2 c3 c4
  go_wp2
  go_ret2
  exact ⟨_, rfl, by have := H2.out; rwa [sb_bstr] at this, hB''⟩

structure Ar where
  op : Nat
  sm : List UInt8
  dm : List UInt8
  si : Nat
  di : Nat
def Ar.v (f : Ar) : Value := .agg #[.int .i64 f.op, .string (bstr f.sm), .string (bstr f.dm), .int .i64 f.si, .int .i64 f.di]
def Ar.zero : Ar := ⟨0, [], [], 0, 0⟩
def arOf (bs : List UInt8) : Ar := ⟨(bs.getD 7 0).toNat, (bs.drop 8).take 6, (bs.drop 18).take 6, numL ((bs.drop 14).take 4), numL ((bs.drop 24).take 4)⟩
def arHead : List UInt8 := [0, 1, 8, 0, 6, 4, 0]
def rdArp (bs : List UInt8) : Ar × Int := if bs.length = 28 ∧ bs.take 7 = arHead ∧ 1 ≤ (arOf bs).op ∧ (arOf bs).op ≤ 2 then (arOf bs, 0) else (.zero, 3)

theorem bstr_toList (l : List UInt8) : (bstr l).toList = l := by rw [ByteArray.toList_eq]; simp [bstr]
def readArpφ (bs : List UInt8) : Nat → Option Spec
  | 12 => some (fun _ v _ => v = .int .i64 (numL ((bs.drop 14).take 4)))
  | 15 => some (fun _ v _ => v = .int .i64 (numL ((bs.drop 24).take 4)))
  | _ => none

theorem readArp_ok (A : Option Addr) (c : Nat) (bs : List UInt8) (hl : bs.length ≤ 1099511627776) (hc : bs.length ≤ c) (w : World) (hr : Rd w A (bs.map bV)) :
    Calls Try.prog 61 #[.slice A bs.length c] w fun e w' => e = .returned (.tuple #[(rdArp bs).1.v, .int .i64 (rdArp bs).2]) ∧ Below w.heap.size w w' := by
  by_cases hlen : bs.length = 28
  · obtain ⟨ad, rfl, -⟩ := hr.at_ (k := 0) (by simp; omega)
    obtain ⟨ad', e7, hc7⟩ := hr.at_ (k := 7) (by simp; omega)
    cases e7
    have hc7' : w.cell? (ad.add 7) = some (.int .u8 ((bs.getD 7 0).toNat : Int)) := by rw [hc7]; simp [bV, List.getD, show 7 < bs.length by omega]
    have l1 : (7 : Int) ≤ c := by omega
    have l2 : (bs.length : Int) = 28 := by omega
    have hcv := fun W (hW : Rd W (some ad) (bs.map bV)) => bytes_str (some ad) 7 c (bs.take 7) (by rw [List.length_take]; omega) W (hW.hd 7)
    have hb := (bs.getD 7 0).toNat_lt
    have hfin : rdArp bs = if bs.take 7 = arHead ∧ 1 ≤ (bs.getD 7 0).toNat ∧ (bs.getD 7 0).toNat ≤ 2 then (arOf bs, 0) else (.zero, 3) := by unfold rdArp; simp only [hlen, true_and]; rfl
    have Hl := Lib.hid (And.intro hlen (And.intro hl hc))
    have hu : ((bs.getD 7 0).toNat : Int) ≤ 255 := by omega
    have hu0 : (0 : Int) ≤ ((bs.getD 7 0).toNat : Int) := by omega
    by_cases hh : bs.take 7 = arHead
    · have hs : ((bstr (bs.take 7)).toList == [0, 1, 8, 0, 6, 4, 0]) = true := by rw [bstr_toList, hh]; rfl
      by_cases ho : 1 ≤ (bs.getD 7 0).toNat ∧ (bs.getD 7 0).toNat ≤ 2
      · rw [if_pos ⟨hh, ho⟩] at hfin
        have hd : decide ((1 : Int) ≤ ((bs.getD 7 0).toNat : Int) ∧ ((bs.getD 7 0).toNat : Int) ≤ 2) = true := by simp only [decide_eq_true_eq]; omega
        have HF := Lib.hid hfin
        have HD := Lib.hid hd
        clear hfin hl hc hh ho hd
        generalize hbv : bs.getD 7 0 = bv at *
        go_enter Try.func61, Try.ntmps61
        go_wp2_with fail
        generalize hw0 : World.alloc w (.cells #[.int .i64 0, .string ⟨#[]⟩, .string ⟨#[]⟩, .int .i64 0, .int .i64 0] 31) = w0
        have hblk : w0.heap[World.heap w |>.size]? = some (.cells #[.int .i64 0, .string ⟨#[]⟩, .string ⟨#[]⟩, .int .i64 0, .int .i64 0] 31 (0, 0)) := by rw [← hw0]; exact heap_alloc_new _ _
        have hlt : (World.heap w).size < w0.heap.size := (Array.getElem?_eq_some_iff.1 hblk).1
        have hB0 : Below (World.heap w).size w w0 := by rw [← hw0]; exact (Below.refl _ _).alloc (Nat.le_refl _) _
        clear hw0
        have hr0 := hr.below hB0 (Nat.le_refl _)
        rw [hcv w0 hr0]
        have hc70 : w0.cell? ⟨ad.block, ad.off + 7, none⟩ = some (.int .u8 (bv.toNat : Int)) := by
          have := (hB0.cell (World.block_lt_of_cell? w _ hc7')).trans hc7'
          simpa [Addr.add] using this
        have Hx := Lib.hid (And.intro hc7 hc7')
        clear hcv hc7 hc7'
        go_wp2_with fail
        refine (within_ok _ _ _ _).mono ?_
        rintro e w1 ⟨rfl, rfl⟩
        rw [HD.out]
        go_wp2_with fail
        have m1 : (14 : Int) ≤ c := by have := Hl.out; omega
        have m2 : (18 : Int) ≤ c := by have := Hl.out; omega
        have m3 : (24 : Int) ≤ c := by have := Hl.out; omega
        have m4 : (28 : Int) ≤ c := by have := Hl.out; omega
        have m5 : (8 : Int) ≤ c := by have := Hl.out; omega
        have hlen : bs.length = 28 := Hl.out.1
        have hcell : ∀ W, Below w0.heap.size w0 W → W.cell? ⟨ad.block, ad.off + 7, none⟩ = some (.int .u8 (bv.toNat : Int)) ∧ (convert 22 9 (.slice (if c = 8 then some ad else some ⟨ad.block, ad.off + 8, none⟩) 6 (c - 8))).run Try.prog W = .ok (.string (bstr (arOf bs).sm)) W ∧
            (convert 22 9 (.slice (if c = 18 then some ad else some ⟨ad.block, ad.off + 18, none⟩) 6 (c - 18))).run Try.prog W = .ok (.string (bstr (arOf bs).dm)) W := fun W hW => by
          have hr' := hr0.below hW (Nat.le_refl _)
          exact ⟨(hW.cell (World.block_lt_of_cell? w0 _ hc70)).trans hc70, bytes_str _ _ _ _ (by simp [arOf]; omega) _ (hr'.sl Hl.out.2.2 8 6 (by omega)), bytes_str _ _ _ _ (by simp [arOf]; omega) _ (hr'.sl Hl.out.2.2 18 6 (by omega))⟩
        have HC := Lib.hid hc70
        clear hc70
        refine wp_region_lex 17 (by kernel_rfl) (by kernel_rfl) (JB w0) LeB (readArpφ bs) ?_ JB.mono ?_ ?_
        · intro j sp x v W W' hj hL h
          unfold readArpφ at hj
          split at hj <;> first | (cases hj; first | exact h | exact BsSp.st hL h | exact ArgRow.st hL h | exact OwnSp.st hL h | exact AllocSp.st hL h) | cases hj
        · exact (Below.refl _ _).drew
        simp only [List.take_succ_cons, List.take_zero, List.drop_succ_cons, List.drop_zero, pairs, List.zipIdx_cons, List.zipIdx_nil, List.map_cons, List.map_nil, Nat.zero_add, Nat.reduceAdd]
        (repeat (first | (refine lex_pure rfl rfl (fun K hK => ?_); go_simp; refine hK _ ?_; clear hK K; try simp (disch := omega) only [IntWalk.i64_in, IntWalk.u8_in, Int.add_sub_cancel, Int.tmod_eq_emod_of_nonneg, Int.tdiv_eq_ediv_of_nonneg]) | (refine lex_load rfl rfl _ (fun m W hJ hF => (by have cc := hcell W hJ; go_simp; rfl)) ?_; try simp (disch := omega) only [IntWalk.i64_in, IntWalk.u8_in, Int.add_sub_cancel, Int.tmod_eq_emod_of_nonneg, Int.tdiv_eq_ediv_of_nonneg]) | (refine lex_sadd rfl rfl rfl rfl rfl (by first | omega | (simp only [ByteArray.size_append]; omega)) ?_; go_simp)))
        refine lex_eff' (sp := fun _ v _ => v = .int .i64 (numL ((bs.drop 14).take 4))) rfl rfl (by intro _ _ _ _ h; exact h) (fun m W hJ hF => ?_) (fun v x hh => ?_) rfl
        · have hr' := (hr.below hB0 (Nat.le_refl _)).below hJ (Nat.le_refl _)
          have hn : ((bs.drop 14).take 4).length = 4 := by simp only [List.length_take, List.length_drop]; omega
          refine gives_call Try.call115 ((hn ▸ num_ok _ (c - 14) ((bs.drop 14).take 4) (by omega) W (hr'.sl Hl.out.2.2 14 4 (by omega))).mono ?_)
          rintro e w' ⟨rfl, rfl⟩
          exact ⟨_, rfl, hJ, LeB.of (Below.refl _ _), rfl⟩
        obtain ⟨_, _, -, rfl, -⟩ := hh
        (repeat (first | (refine lex_pure rfl rfl (fun K hK => ?_); go_simp; refine hK _ ?_; clear hK K; try simp (disch := omega) only [IntWalk.i64_in, IntWalk.u8_in, Int.add_sub_cancel, Int.tmod_eq_emod_of_nonneg, Int.tdiv_eq_ediv_of_nonneg]) | (refine lex_load rfl rfl _ (fun m W hJ hF => (by have cc := hcell W hJ; go_simp; rfl)) ?_; try simp (disch := omega) only [IntWalk.i64_in, IntWalk.u8_in, Int.add_sub_cancel, Int.tmod_eq_emod_of_nonneg, Int.tdiv_eq_ediv_of_nonneg]) | (refine lex_sadd rfl rfl rfl rfl rfl (by first | omega | (simp only [ByteArray.size_append]; omega)) ?_; go_simp)))
        refine lex_eff' (sp := fun _ v _ => v = .int .i64 (numL ((bs.drop 24).take 4))) rfl rfl (by intro _ _ _ _ h; exact h) (fun m W hJ hF => ?_) (fun v x hh => ?_) rfl
        · have hr' := (hr.below hB0 (Nat.le_refl _)).below hJ (Nat.le_refl _)
          have hn : ((bs.drop 24).take 4).length = 4 := by simp only [List.length_take, List.length_drop]; omega
          refine gives_call Try.call115 ((hn ▸ num_ok _ (c - 24) ((bs.drop 24).take 4) (by omega) W (hr'.sl Hl.out.2.2 24 4 (by omega))).mono ?_)
          rintro e w' ⟨rfl, rfl⟩
          exact ⟨_, rfl, hJ, LeB.of (Below.refl _ _), rfl⟩
        obtain ⟨_, _, -, rfl, -⟩ := hh
        (repeat (first | (refine lex_pure rfl rfl (fun K hK => ?_); go_simp; refine hK _ ?_; clear hK K; try simp (disch := omega) only [IntWalk.i64_in, IntWalk.u8_in, Int.add_sub_cancel, Int.tmod_eq_emod_of_nonneg, Int.tdiv_eq_ediv_of_nonneg]) | (refine lex_load rfl rfl _ (fun m W hJ hF => (by have cc := hcell W hJ; go_simp; rfl)) ?_; try simp (disch := omega) only [IntWalk.i64_in, IntWalk.u8_in, Int.add_sub_cancel, Int.tmod_eq_emod_of_nonneg, Int.tdiv_eq_ediv_of_nonneg]) | (refine lex_sadd rfl rfl rfl rfl rfl (by first | omega | (simp only [ByteArray.size_append]; omega)) ?_; go_simp)))
        refine lex_nil (fun m W hJ hF => ?_)
        have hres := (hJ.block _ hlt).trans hblk
        have hB := Below.trans hB0 (Below.mono hJ hB0.size)
        clear hF hcell hJ hblk
        generalize (if c = 8 then some ad else _) = A8
        generalize (if c = 18 then some ad else _) = A18
        generalize (if c = 14 then some ad else _) = A14
        generalize (if c = 24 then some ad else _) = A24
        have hv : (arOf bs).v = .agg #[.int .i64 (bv.toNat : Int), .string (bstr (arOf bs).sm), .string (bstr (arOf bs).dm), .int .i64 (numL ((bs.drop 14).take 4)), .int .i64 (numL ((bs.drop 24).take 4))] := by rw [← hbv]; rfl
        have HV := Lib.hid hv
        have Hb := Lib.hid hres
        clear hv hres
        go_wp2_with (refine wpList_store_row rfl _ _ 31 rfl w.heap.size 31 _ _ rfl rfl Hb.out rfl infoArp rfl ?_)
        refine bodyPost_ret (ret_cell_tmp rfl rfl (setRow_heap _ _ _ _ _ _ Hb.out) Try.underlying31 rfl infoArp) rfl ?_
        exact ⟨by rw [HF.out, HV.out]; rfl, below_setRow hB (Nat.le_refl _) _⟩
      · rw [if_neg (by intro h; exact ho h.2)] at hfin
        have hd : decide ((1 : Int) ≤ ((bs.getD 7 0).toNat : Int) ∧ ((bs.getD 7 0).toNat : Int) ≤ 2) = false := by simp only [decide_eq_false_iff_not]; omega
        have HF := Lib.hid hfin
        have HD := Lib.hid hd
        clear hfin hl hc hh ho hd
        generalize hbv : bs.getD 7 0 = bv at *
        go_enter Try.func61, Try.ntmps61
        go_wp2_with fail
        generalize hw0 : World.alloc w (.cells #[.int .i64 0, .string ⟨#[]⟩, .string ⟨#[]⟩, .int .i64 0, .int .i64 0] 31) = w0
        have hblk : w0.heap[World.heap w |>.size]? = some (.cells #[.int .i64 0, .string ⟨#[]⟩, .string ⟨#[]⟩, .int .i64 0, .int .i64 0] 31 (0, 0)) := by rw [← hw0]; exact heap_alloc_new _ _
        have hlt : (World.heap w).size < w0.heap.size := (Array.getElem?_eq_some_iff.1 hblk).1
        have hB0 : Below (World.heap w).size w w0 := by rw [← hw0]; exact (Below.refl _ _).alloc (Nat.le_refl _) _
        clear hw0
        have hr0 := hr.below hB0 (Nat.le_refl _)
        rw [hcv w0 hr0]
        have hc70 : w0.cell? ⟨ad.block, ad.off + 7, none⟩ = some (.int .u8 (bv.toNat : Int)) := by
          have := (hB0.cell (World.block_lt_of_cell? w _ hc7')).trans hc7'
          simpa [Addr.add] using this
        have Hx := Lib.hid (And.intro hc7 hc7')
        clear hcv hc7 hc7'
        go_wp2_with fail
        refine (within_ok _ _ _ _).mono ?_
        rintro e w1 ⟨rfl, rfl⟩
        rw [HD.out]
        have Hb := Lib.hid hblk
        clear hblk
        go_wp2_with (refine wpList_store_row rfl _ _ 31 rfl w.heap.size 31 _ _ rfl rfl Hb.out rfl infoArp rfl ?_)
        refine bodyPost_ret (ret_cell_tmp rfl rfl (setRow_heap _ _ _ _ _ _ Hb.out) Try.underlying31 rfl infoArp) rfl ?_
        exact ⟨by rw [HF.out]; rfl, below_setRow hB0 (Nat.le_refl _) _⟩
    · rw [if_neg (by intro h; exact hh h.1)] at hfin
      have hs : ((bstr (bs.take 7)).toList == [0, 1, 8, 0, 6, 4, 0]) = false := by
        rw [bstr_toList]; exact beq_eq_false_iff_ne.2 (fun e => hh e)
      have HF := Lib.hid hfin
      clear hfin hl hc hh
      go_enter Try.func61, Try.ntmps61
      go_wp2_with fail
      generalize hw0 : World.alloc w (.cells #[.int .i64 0, .string ⟨#[]⟩, .string ⟨#[]⟩, .int .i64 0, .int .i64 0] 31) = w0
      have hblk : w0.heap[World.heap w |>.size]? = some (.cells #[.int .i64 0, .string ⟨#[]⟩, .string ⟨#[]⟩, .int .i64 0, .int .i64 0] 31 (0, 0)) := by rw [← hw0]; exact heap_alloc_new _ _
      have hlt : (World.heap w).size < w0.heap.size := (Array.getElem?_eq_some_iff.1 hblk).1
      have hB0 : Below (World.heap w).size w w0 := by rw [← hw0]; exact (Below.refl _ _).alloc (Nat.le_refl _) _
      clear hw0
      have hr0 := hr.below hB0 (Nat.le_refl _)
      rw [hcv w0 hr0]
      clear hcv hc7 hc7'
      have Hb := Lib.hid hblk
      clear hblk
      go_wp2_with (refine wpList_store_row rfl _ _ 31 rfl w.heap.size 31 _ _ rfl rfl Hb.out rfl infoArp rfl ?_)
      refine bodyPost_ret (ret_cell_tmp rfl rfl (setRow_heap _ _ _ _ _ _ Hb.out) Try.underlying31 rfl infoArp) rfl ?_
      exact ⟨by rw [HF.out]; rfl, below_setRow hB0 (Nat.le_refl _) _⟩
  · have hfin : rdArp bs = (.zero, 3) := by rw [rdArp, if_neg (by omega)]
    have HF := Lib.hid hfin
    have hn : ((bs.length : Int) != 28) = true := by simp; omega
    have hn2 : ((bs.length : Int) == 28) = false := by simp; omega
    clear hfin hlen
    go_enter Try.func61, Try.ntmps61
    go_wp2_with fail
    generalize hw0 : World.alloc w (.cells #[.int .i64 0, .string ⟨#[]⟩, .string ⟨#[]⟩, .int .i64 0, .int .i64 0] 31) = w0
    have hblk : w0.heap[World.heap w |>.size]? = some (.cells #[.int .i64 0, .string ⟨#[]⟩, .string ⟨#[]⟩, .int .i64 0, .int .i64 0] 31 (0, 0)) := by rw [← hw0]; exact heap_alloc_new _ _
    have hlt : (World.heap w).size < w0.heap.size := (Array.getElem?_eq_some_iff.1 hblk).1
    have hB0 : Below (World.heap w).size w w0 := by rw [← hw0]; exact (Below.refl _ _).alloc (Nat.le_refl _) _
    clear hw0
    have Hb := Lib.hid hblk
    clear hblk
    refine bodyPost_ret (ret_cell_tmp rfl rfl Hb.out Try.underlying31 rfl infoArp) rfl ?_
    exact ⟨by rw [HF.out]; rfl, hB0⟩

theorem ReadArp_ok (A : Option Addr) (c : Nat) (bs : List UInt8) (hl : bs.length ≤ 65536) (hc : bs.length ≤ c) (w : World) (hr : Rd w A (bs.map bV)) :
    Calls Try.prog 16 #[.slice A bs.length c] w fun e w' => e = .returned (.tuple #[(rdArp bs).1.v, .int .i64 (rdArp bs).2]) ∧ Below w.heap.size w w' := by
  have hl2 : (bs.length : Int) ≤ 65536 := by omega
  go_enter Try.func16, Try.ntmps16
  go_wp2_with fail
  generalize hw0 : World.alloc w (.cells #[.int .i64 0, .string ⟨#[]⟩, .string ⟨#[]⟩, .int .i64 0, .int .i64 0] 31) = w0
  have hblk : w0.heap[World.heap w |>.size]? = some (.cells #[.int .i64 0, .string ⟨#[]⟩, .string ⟨#[]⟩, .int .i64 0, .int .i64 0] 31 (0, 0)) := by rw [← hw0]; exact heap_alloc_new _ _
  have hlt : (World.heap w).size < w0.heap.size := (Array.getElem?_eq_some_iff.1 hblk).1
  have hB0 : Below (World.heap w).size w w0 := by rw [← hw0]; exact (Below.refl _ _).alloc (Nat.le_refl _) _
  clear hw0
  refine (readArp_ok A c bs (by omega) hc w0 (hr.below hB0 (Nat.le_refl _))).mono ?_
  rintro e w1 ⟨rfl, hB1⟩
  have hb1 := (hB1.block _ hlt).trans hblk
  have hB := Below.trans hB0 (hB1.mono hB0.size)
  have Hb := Lib.hid hb1
  clear hblk hb1
  go_wp2_with (refine wpList_store_row rfl _ _ 31 rfl w.heap.size 31 _ _ rfl rfl Hb.out rfl infoArp rfl ?_)
  refine bodyPost_ret (ret_cell_tmp rfl rfl (setRow_heap _ _ _ _ _ _ Hb.out) Try.underlying31 rfl infoArp) rfl ?_
  exact ⟨rfl, below_setRow hB (Nat.le_refl _) _⟩
end Go.Proofs.Ytdenjmdngmmodaa
