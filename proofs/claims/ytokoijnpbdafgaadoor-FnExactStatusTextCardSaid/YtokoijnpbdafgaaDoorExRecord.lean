/- Exact laws: the helpers of Record: copied, measured, held against one another. -/
import Derived.Test.YtokoijnpbdafgaaDoorRlB
import Derived.Test.YtokoijnpbdafgaaDoorRow
import Derived.Deep.Cut
namespace Go.Proofs.YtokoijnpbdafgaaDoor
open Go.RowKit
set_option linter.unusedVariables false
set_option linter.unusedSimpArgs false
set_option maxRecDepth 200000
set_option maxHeartbeats 4000000

structure ExRecord where
  id : Int
  at_ : Int
  cause : Int
  bytes : Int
  stop : Bool
@[reducible] def ExRecord.cells (x : ExRecord) : Array Value := #[.int .i64 x.id, .int .i64 x.at_, .int .i64 x.cause, .int .i64 x.bytes, .bool x.stop]
def ExRecord.row (x : ExRecord) : List Value := x.cells.toList
theorem ExRecord.row_len (x : ExRecord) : x.row.length = 5 := rfl
theorem ExRecord.row_one (x : ExRecord) : ∀ u ∈ x.row, u.oneCell' = true := by
  intro u hu
  simp [ExRecord.row] at hu
  rcases hu with rfl | rfl | rfl | rfl | rfl <;> rfl
theorem ExRecord.info : (Tryd.prog.info? 103).map (·.size) = some 5 := by kernel_rfl
/-- What its strings take. -/
def ExRecord.size (x : ExRecord) : Nat := 0
structure ExRecord.At (w : World) (a : Addr) (x : ExRecord) : Prop where
  c0 : w.cell? a = some (.int .i64 x.id)
  c1 : w.cell? ⟨a.block, a.off + 1, none⟩ = some (.int .i64 x.at_)
  c2 : w.cell? ⟨a.block, a.off + 2, none⟩ = some (.int .i64 x.cause)
  c3 : w.cell? ⟨a.block, a.off + 3, none⟩ = some (.int .i64 x.bytes)
  c4 : w.cell? ⟨a.block, a.off + 4, none⟩ = some (.bool x.stop)
theorem ExRecord.At.of {w : World} {A : Option Addr} {l : List ExRecord} (h : Rd w A (rowC ExRecord.row l)) (k : Nat) (hk : k < l.length) : ∃ ad, A = some ad ∧ ExRecord.At w (ad.add (k * 5)) l[k] := by
  obtain ⟨ad, e, q⟩ := row_at ExRecord.row_len (by omega) h k hk
  refine ⟨ad, e, ?_⟩
  have q' : ∀ j u, j ≠ 0 → (ExRecord.row l[k])[j]? = some u → w.cell? ⟨(ad.add (k * 5)).block, (ad.add (k * 5)).off + j, none⟩ = some u := fun j u hj hu => by
    have h := q j u hu
    unfold Addr.add at h ⊢
    simpa [hj] using h
  exact ⟨by have := q 0 _ rfl; unfold Addr.add at this ⊢; simpa using this, q' 1 _ (by omega) rfl, q' 2 _ (by omega) rfl, q' 3 _ (by omega) rfl, q' 4 _ (by omega) rfl⟩
theorem toRecord_ok (x : ExRecord) (w : World) : Calls Tryd.prog 50 #[.agg x.cells] w fun e w' => e = .returned (.agg x.cells) ∧ LeB w w' := by
  go_enter Tryd.func50, Tryd.ntmps50
  go_wp2_with fail
  have hb : (((w.alloc (.cells x.cells 105)).alloc (.cells x.cells 103)).alloc (.cells x.cells 103)).heap[w.heap.size + 1]? = some (.cells x.cells 103 (0, 0)) := by
    have h1 := heap_alloc_new (w.alloc (.cells x.cells 105)) (.cells x.cells 103)
    rw [show (w.alloc (.cells x.cells 105)).heap.size = w.heap.size + 1 from by simp] at h1
    exact (heap_alloc_old _ _ (by simp)).trans h1
  refine bodyPost_ret (ret_cell (cs := x.cells) (b := w.heap.size + 1) rfl rfl hb Tryd.underlying103 rfl ExRecord.info) rfl ?_
  exact ⟨rfl, (((Below.refl _ _).alloc (Nat.le_refl _) _).alloc (by simp) _).alloc (by simp; omega) _⟩
/-- Two of the same are held equal. -/
theorem eqRecord_ok (x : ExRecord) (w : World) : Calls Tryd.prog 54 #[.agg x.cells, .agg x.cells] w fun e w' => e = .returned (.bool true) ∧ LeB w w' := by
  go_enter Tryd.func54, Tryd.ntmps54
  go_wp2_with fail
  go_ret
  exact ⟨rfl, ((Below.refl _ _).alloc (Nat.le_refl _) _).alloc (by simp) _⟩
theorem ExRecord.At.below {w w' : World} {a : Addr} {x : ExRecord} (h : ExRecord.At w a x) (hb : LeB w w') : ExRecord.At w' a x := by
  have q : ∀ {p : Addr} {u : Value}, w.cell? p = some u → w'.cell? p = some u := fun {p u} hc => (hb.cell (World.block_lt_of_cell? w _ hc)).trans hc
  exact ⟨q h.c0, q h.c1, q h.c2, q h.c3, q h.c4⟩
def exφRecord : Nat → Option Spec := fun j => if j = 8 then some (fun _ v _ => v = .bool true) else none
theorem exφRecord_st : ∀ j sp x v w w', exφRecord j = some sp → LeB w w' → sp x v w → sp x v w' := by
  intro j sp x v w w' hj _ h
  unfold exφRecord at hj
  split at hj
  · cases hj; exact h
  · cases hj
theorem eqRecordS_ok (l : List ExRecord) (A1 A2 : Option Addr) (k1 k2 : Nat) (hc1 : l.length ≤ k1) (hc2 : l.length ≤ k2) (w : World) (hr1 : Rd w A1 (rowC ExRecord.row l)) (hr2 : Rd w A2 (rowC ExRecord.row l)) (hl : l.length ≤ 1099511627776) :
    Calls Tryd.prog 31 #[.slice A1 l.length k1, .slice A2 l.length k2] w fun e w' => e = .returned (.bool true) ∧ LeB w w' := by
  have hlI : (l.length : Int) ≤ 1099511627776 := by omega
  have hc1I : (l.length : Int) ≤ k1 := by omega
  have hc2I : (l.length : Int) ≤ k2 := by omega
  have HK := Lib.hid (And.intro hr1 hr2)
  clear hr1 hr2
  go_enter Tryd.func31, Tryd.ntmps31
  go_wp2_with fail
  go_loopw [5] (fun i wr => ∃ k : Nat, i = .int .i64 k ∧ k ≤ l.length ∧ LeB w wr) (fun i _ => (l.length - (intOf i).toNat))
  case atStart => exact ⟨0, rfl, Nat.zero_le _, Below.refl _ _⟩
  case round =>
    obtain ⟨k, rfl, hk, hB⟩ := hrel
    have HR := Lib.hid hB
    clear hB
    by_cases hlt : k < l.length
    · have hltI : (k : Int) < l.length := by omega
      obtain ⟨ad1, hA1, q1⟩ := ExRecord.At.of (HK.out.1.below HR.out (Nat.le_refl _)) k hlt
      obtain ⟨ad2, hA2, q2⟩ := ExRecord.At.of (HK.out.2.below HR.out (Nat.le_refl _)) k hlt
      subst hA1 hA2
      obtain ⟨x, hx⟩ : ∃ x, l[k] = x := ⟨_, rfl⟩
      rw [hx] at q1 q2
      clear hx
      have HQ := Lib.hid (And.intro q1 q2)
      clear q1 q2
      go_wp2_with fail
      refine wp_region_lex 10 (by kernel_rfl) (by kernel_rfl) (JB wr) LeB exφRecord exφRecord_st JB.mono ?_ ?_
      · exact (Below.refl _ _).drew
      simp only [List.take_succ_cons, List.take_zero, List.drop_succ_cons, List.drop_zero, pairs, List.zipIdx_cons, List.zipIdx_nil, List.map_cons, List.map_nil, Nat.zero_add, Nat.reduceAdd]
      (repeat (refine lex_pure rfl rfl (fun K hK => ?_); go_simp; refine hK _ ?_; clear hK K; try simp (disch := omega) only [IntWalk.i64_in, IntWalk.u8_in, Int.add_sub_cancel, Int.tmod_eq_emod_of_nonneg, Int.tdiv_eq_ediv_of_nonneg]))
      refine lex_load rfl rfl (.agg x.cells) (fun m W hJ hF => by obtain ⟨c0, c1, c2, c3, c4⟩ := HQ.out.1.below hJ; go_simp) ?_
      (repeat (refine lex_pure rfl rfl (fun K hK => ?_); go_simp; refine hK _ ?_; clear hK K; try simp (disch := omega) only [IntWalk.i64_in, IntWalk.u8_in, Int.add_sub_cancel, Int.tmod_eq_emod_of_nonneg, Int.tdiv_eq_ediv_of_nonneg]))
      refine lex_load rfl rfl (.agg x.cells) (fun m W hJ hF => by obtain ⟨c0, c1, c2, c3, c4⟩ := HQ.out.2.below hJ; go_simp) ?_
      refine lex_eff' (sp := fun _ v _ => v = .bool true) rfl rfl (by intro _ _ _ _ h; exact h) (fun m W hJ hF => ?_) (fun v x hh => ?_) rfl
      · refine gives_call Tryd.call54 ((eqRecord_ok x W).mono ?_)
        rintro e w' ⟨rfl, h4⟩
        exact ⟨_, rfl, hJ.step h4, h4, rfl⟩
      obtain ⟨_, _, -, rfl, -⟩ := hh
      (repeat (refine lex_pure rfl rfl (fun K hK => ?_); go_simp; refine hK _ ?_; clear hK K; try simp (disch := omega) only [IntWalk.i64_in, IntWalk.u8_in, Int.add_sub_cancel, Int.tmod_eq_emod_of_nonneg, Int.tdiv_eq_ediv_of_nonneg]))
      refine lex_nil (fun m W hJ hF => ?_)
      have H2 := Lib.hid (LeB.tr HR.out hJ)
      clear hF hJ
      go_wp2_with fail
      go_roundw
      case rel => exact ⟨k + 1, by go_num, by omega, H2.out⟩
      case measure => simp [intOf]; omega
    · obtain rfl : k = l.length := by omega
      go_wp2_with fail
      go_ret
      exact ⟨rfl, HR.out⟩
theorem ExRecord.infoz : ∃ (i : TypeInfo) (z : Value), Tryd.prog.info? 103 = some i ∧ i.zero = some z ∧ i.size = 5 ∧ i.bytes ≤ 4096 ∧ z.cells.size = 5 := by
  have h : (match Tryd.prog.info? 103 with | some i => (match i.zero with | some z => i.size == 5 && decide (i.bytes ≤ 4096) && z.cells.size == 5 | none => false) | none => false) = true := by kernel_rfl
  split at h
  · rename_i i hi
    split at h
    · rename_i z hz
      simp only [Bool.and_eq_true, beq_iff_eq, decide_eq_true_eq] at h
      exact ⟨i, z, hi, hz, h.1.1, h.1.2, h.2⟩
    · cases h
  · cases h
theorem toRecordS_ok (A : Option Addr) (k0 : Nat) (l : List ExRecord) (hc : l.length ≤ k0) (hl : l.length ≤ 1048576) (w : World) (hr : Rd w A (rowC ExRecord.row l)) :
    Calls Tryd.prog 27 #[.slice A l.length k0] w fun e w' => ∃ g, e = .returned (.slice (some ⟨g, 0, none⟩) l.length l.length) ∧ w'.ownsRow w.heap.size 103 5 (.slice (some ⟨g, 0, none⟩) l.length l.length) l.length (rowC ExRecord.row l) ∧ LeB w w' := by
  obtain ⟨i, z, hi, hz, hsz, hby, hzs⟩ := ExRecord.infoz
  have hmk := run_make (P := Tryd.prog) w 26 103 i z Tryd.underlying26 hi hz .i64 .i64 l.length l.length (by omega) (Int.le_refl _) (by have := Nat.mul_le_mul hby hl; omega) (by omega)
  rw [hsz] at hmk
  simp only [Int.toNat_natCast] at hmk
  have hcs : (madeCells z.cells (l.length * 5)).size = l.length * 5 := size_madeCells _ _
  obtain ⟨wa, hwa, hba, hBa⟩ : ∃ x, w.alloc (.cells (madeCells z.cells (l.length * 5)) 103) = x ∧ x.heap[w.heap.size]? = some (.cells (madeCells z.cells (l.length * 5)) 103 (0, 0)) ∧ LeB w x := ⟨_, rfl, heap_alloc_new _ _, (Below.refl _ _).alloc (Nat.le_refl _) _⟩
  rw [hwa] at hmk
  have HK := Lib.hid (And.intro hr (And.intro hl (And.intro hba (And.intro hBa hcs))))
  have hlI : (l.length : Int) ≤ 1048576 := by omega
  have hcI : (l.length : Int) ≤ k0 := by omega
  clear hr hi hz hsz hby hzs hcs hwa hba hBa
  go_enter Tryd.func27, Tryd.ntmps27
  go_wp2_with fail
  clear hmk
  go_loopw [4] (fun iv wr => ∃ (k : Nat) (cur : Array Value), iv = .int .i64 k ∧ k ≤ l.length ∧ wr.heap[w.heap.size]? = some (.cells cur 103 (0, 0)) ∧ cur.size = l.length * 5 ∧ Heads ExRecord.row (l.take k) cur ∧ LeB w wr) (fun iv _ => (l.length - (intOf iv).toNat))
  case atStart => exact ⟨0, _, rfl, Nat.zero_le _, HK.out.2.2.1, HK.out.2.2.2.2, ⟨_, by simp [rowC]; rfl⟩, HK.out.2.2.2.1⟩
  case round =>
    obtain ⟨k, cur, rfl, hk, hb, hs, hh, hB⟩ := hrel
    have HR := Lib.hid (And.intro hb (And.intro hs (And.intro hh hB)))
    clear hb hs hh hB
    by_cases hlt : k < l.length
    · have hltI : (k : Int) < l.length := by omega
      obtain ⟨ad1, hA1, q1⟩ := ExRecord.At.of (HK.out.1.below HR.out.2.2.2 (Nat.le_refl _)) k hlt
      subst hA1
      have htk := List.take_succ_eq_append_getElem hlt
      obtain ⟨x, hx⟩ : ∃ x, l[k] = x := ⟨_, rfl⟩
      rw [hx] at q1 htk
      have HT := Lib.hid htk
      clear hx htk
      obtain ⟨p0, p1, p2, p3, p4⟩ := q1
      go_wp2_with fail
      refine (toRecord_ok x wr).mono ?_
      rintro e w2 ⟨rfl, hB2⟩
      have hz : k * 5 + x.cells.size ≤ cur.size := by show k * 5 + 5 ≤ _; rw [HR.out.2.1]; omega
      have H2 := Lib.hid (And.intro ((hB2.block _ (Array.getElem?_eq_some_iff.1 HR.out.1).1).trans HR.out.1) (And.intro (LeB.tr HR.out.2.2.2 hB2) hz))
      clear hB2 hz p0 p1 p2 p3 p4
      go_wp2_with (refine wpList_store_lay rfl _ _ 103 rfl w.heap.size (k * 5) 103 cur x.cells rfl rfl H2.out.1 H2.out.2.2 ExRecord.info rfl ?_)
      go_roundw
      case rel =>
        have hp := HR.out.2.2.1.push ExRecord.row_len x
        rw [← HT.out, show (l.take k).length = k from by rw [List.length_take]; omega] at hp
        exact ⟨k + 1, _, by go_num, by omega, setRow_heap _ _ _ _ _ _ H2.out.1, by rw [layC_size _ _ _ H2.out.2.2]; exact HR.out.2.1, hp, below_setRow H2.out.2.1 (Nat.le_refl _) _⟩
      case measure => simp [intOf]; omega
    · obtain rfl : k = l.length := by omega
      have hh := HR.out.2.2.1
      rw [List.take_length] at hh
      have HH := Lib.hid hh
      clear hh
      go_wp2_with fail
      go_ret
      exact ⟨w.heap.size, rfl, heads_own ExRecord.row_len (Nat.le_refl _) HR.out.1 (Nat.le_refl _) (by have := HK.out.2.1; simp only [maxLen]; omega) HR.out.2.1 HH.out, HR.out.2.2.2⟩
end Go.Proofs.YtokoijnpbdafgaaDoor
