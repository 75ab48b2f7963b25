/- Exact laws: the helpers of Fail: copied, measured, held against one another. -/
import Derived.Test.YtokoijnpbdafgaaDoorRlB
import Derived.Test.YtokoijnpbdafgaaDoorRow
import Derived.Deep.Cut
namespace Go.Proofs.YtokoijnpbdafgaaDoor
open Go.RowKit
set_option linter.unusedVariables false
set_option linter.unusedSimpArgs false
set_option maxRecDepth 200000
set_option maxHeartbeats 4000000

structure ExFail where
  mac : ByteArray
  count : Int
  until_ : Int
@[reducible] def ExFail.cells (x : ExFail) : Array Value := #[.string x.mac, .int .i64 x.count, .int .i64 x.until_]
def ExFail.row (x : ExFail) : List Value := x.cells.toList
theorem ExFail.row_len (x : ExFail) : x.row.length = 3 := rfl
theorem ExFail.row_one (x : ExFail) : ∀ u ∈ x.row, u.oneCell' = true := by
  intro u hu
  simp [ExFail.row] at hu
  rcases hu with rfl | rfl | rfl <;> rfl
theorem ExFail.info : (Tryd.prog.info? 100).map (·.size) = some 3 := by kernel_rfl
/-- What its strings take. -/
def ExFail.size (x : ExFail) : Nat := x.mac.size
/-- Its strings are no longer than any may be. -/
def ExFail.Fit (x : ExFail) : Prop := x.mac.size ≤ 9223372036854775807
structure ExFail.At (w : World) (a : Addr) (x : ExFail) : Prop where
  c0 : w.cell? a = some (.string x.mac)
  c1 : w.cell? ⟨a.block, a.off + 1, none⟩ = some (.int .i64 x.count)
  c2 : w.cell? ⟨a.block, a.off + 2, none⟩ = some (.int .i64 x.until_)
theorem ExFail.At.of {w : World} {A : Option Addr} {l : List ExFail} (h : Rd w A (rowC ExFail.row l)) (k : Nat) (hk : k < l.length) : ∃ ad, A = some ad ∧ ExFail.At w (ad.add (k * 3)) l[k] := by
  obtain ⟨ad, e, q⟩ := row_at ExFail.row_len (by omega) h k hk
  refine ⟨ad, e, ?_⟩
  have q' : ∀ j u, j ≠ 0 → (ExFail.row l[k])[j]? = some u → w.cell? ⟨(ad.add (k * 3)).block, (ad.add (k * 3)).off + j, none⟩ = some u := fun j u hj hu => by
    have h := q j u hu
    unfold Addr.add at h ⊢
    simpa [hj] using h
  exact ⟨by have := q 0 _ rfl; unfold Addr.add at this ⊢; simpa using this, q' 1 _ (by omega) rfl, q' 2 _ (by omega) rfl⟩
theorem toFail_ok (x : ExFail) (w : World) : Calls Tryd.prog 49 #[.agg x.cells] w fun e w' => e = .returned (.agg x.cells) ∧ LeB w w' := by
  go_enter Tryd.func49, Tryd.ntmps49
  go_wp2_with fail
  have hb : (((w.alloc (.cells x.cells 97)).alloc (.cells x.cells 100)).alloc (.cells x.cells 100)).heap[w.heap.size + 1]? = some (.cells x.cells 100 (0, 0)) := by
    have h1 := heap_alloc_new (w.alloc (.cells x.cells 97)) (.cells x.cells 100)
    rw [show (w.alloc (.cells x.cells 97)).heap.size = w.heap.size + 1 from by simp] at h1
    exact (heap_alloc_old _ _ (by simp)).trans h1
  refine bodyPost_ret (ret_cell (cs := x.cells) (b := w.heap.size + 1) rfl rfl hb Tryd.underlying100 rfl ExFail.info) rfl ?_
  exact ⟨rfl, (((Below.refl _ _).alloc (Nat.le_refl _) _).alloc (by simp) _).alloc (by simp; omega) _⟩
/-- Two of the same are held equal. -/
theorem eqFail_ok (x : ExFail) (w : World) : Calls Tryd.prog 53 #[.agg x.cells, .agg x.cells] w fun e w' => e = .returned (.bool true) ∧ LeB w w' := by
  go_enter Tryd.func53, Tryd.ntmps53
  go_wp2_with fail
  go_ret
  exact ⟨rfl, ((Below.refl _ _).alloc (Nat.le_refl _) _).alloc (by simp) _⟩
/-- Its measure: what is left, or -1. -/
theorem szFail_ok (x : ExFail) (left : Int) (h0 : 0 ≤ left) (h1 : left ≤ 1048576) (hs : x.Fit) (w : World) :
    Calls Tryd.prog 46 #[.agg x.cells, .int .i64 left] w fun e w' => e = .returned (.int .i64 (if (x.size : Int) ≤ left then left - x.size else -1)) ∧ LeB w w' := by
  unfold ExFail.Fit at hs
  unfold ExFail.size
  have b0 : (x.mac.size : Int) ≤ 9223372036854775807 := by omega
  obtain ⟨r, hr⟩ : ∃ r, (if ((x.mac.size : Nat) : Int) ≤ left then left - (x.mac.size : Nat) else -1) = r := ⟨_, rfl⟩
  rw [hr]
  by_cases c0 : left - (x.mac.size : Int) < 0
  · rw [if_neg (by omega)] at hr
    have HR := Lib.hid hr
    clear hr
    go_enter Tryd.func46, Tryd.ntmps46
    go_wp2_with fail
    go_ret
    exact ⟨by rw [← HR.out]; rfl, (Below.refl _ _).alloc (Nat.le_refl _) _⟩
  have d0 : decide (left - (x.mac.size : Int) < 0) = false := decide_eq_false c0
  rw [if_pos (by omega)] at hr
  have he : left - (x.mac.size : Int) = r := by omega
  have HR := Lib.hid he
  clear hr he
  go_enter Tryd.func46, Tryd.ntmps46
  go_wp2_with fail
  go_ret
  exact ⟨by rw [← HR.out]; rfl, (Below.refl _ _).alloc (Nat.le_refl _) _⟩
theorem ExFail.At.below {w w' : World} {a : Addr} {x : ExFail} (h : ExFail.At w a x) (hb : LeB w w') : ExFail.At w' a x := by
  have q : ∀ {p : Addr} {u : Value}, w.cell? p = some u → w'.cell? p = some u := fun {p u} hc => (hb.cell (World.block_lt_of_cell? w _ hc)).trans hc
  exact ⟨q h.c0, q h.c1, q h.c2⟩
def exφFail : Nat → Option Spec := fun j => if j = 8 then some (fun _ v _ => v = .bool true) else none
theorem exφFail_st : ∀ j sp x v w w', exφFail j = some sp → LeB w w' → sp x v w → sp x v w' := by
  intro j sp x v w w' hj _ h
  unfold exφFail at hj
  split at hj
  · cases hj; exact h
  · cases hj
theorem eqFailS_ok (l : List ExFail) (A1 A2 : Option Addr) (k1 k2 : Nat) (hc1 : l.length ≤ k1) (hc2 : l.length ≤ k2) (w : World) (hr1 : Rd w A1 (rowC ExFail.row l)) (hr2 : Rd w A2 (rowC ExFail.row l)) (hl : l.length ≤ 1099511627776) :
    Calls Tryd.prog 30 #[.slice A1 l.length k1, .slice A2 l.length k2] w fun e w' => e = .returned (.bool true) ∧ LeB w w' := by
  have hlI : (l.length : Int) ≤ 1099511627776 := by omega
  have hc1I : (l.length : Int) ≤ k1 := by omega
  have hc2I : (l.length : Int) ≤ k2 := by omega
  have HK := Lib.hid (And.intro hr1 hr2)
  clear hr1 hr2
  go_enter Tryd.func30, Tryd.ntmps30
  go_wp2_with fail
  go_loopw [5] (fun i wr => ∃ k : Nat, i = .int .i64 k ∧ k ≤ l.length ∧ LeB w wr) (fun i _ => (l.length - (intOf i).toNat))
  case atStart => exact ⟨0, rfl, Nat.zero_le _, Below.refl _ _⟩
  case round =>
    obtain ⟨k, rfl, hk, hB⟩ := hrel
    have HR := Lib.hid hB
    clear hB
    by_cases hlt : k < l.length
    · have hltI : (k : Int) < l.length := by omega
      obtain ⟨ad1, hA1, q1⟩ := ExFail.At.of (HK.out.1.below HR.out (Nat.le_refl _)) k hlt
      obtain ⟨ad2, hA2, q2⟩ := ExFail.At.of (HK.out.2.below HR.out (Nat.le_refl _)) k hlt
      subst hA1 hA2
      obtain ⟨x, hx⟩ : ∃ x, l[k] = x := ⟨_, rfl⟩
      rw [hx] at q1 q2
      clear hx
      have HQ := Lib.hid (And.intro q1 q2)
      clear q1 q2
      go_wp2_with fail
      refine wp_region_lex 10 (by kernel_rfl) (by kernel_rfl) (JB wr) LeB exφFail exφFail_st JB.mono ?_ ?_
      · exact (Below.refl _ _).drew
      simp only [List.take_succ_cons, List.take_zero, List.drop_succ_cons, List.drop_zero, pairs, List.zipIdx_cons, List.zipIdx_nil, List.map_cons, List.map_nil, Nat.zero_add, Nat.reduceAdd]
      (repeat (refine lex_pure rfl rfl (fun K hK => ?_); go_simp; refine hK _ ?_; clear hK K; try simp (disch := omega) only [IntWalk.i64_in, IntWalk.u8_in, Int.add_sub_cancel, Int.tmod_eq_emod_of_nonneg, Int.tdiv_eq_ediv_of_nonneg]))
      refine lex_load rfl rfl (.agg x.cells) (fun m W hJ hF => by obtain ⟨c0, c1, c2⟩ := HQ.out.1.below hJ; go_simp) ?_
      (repeat (refine lex_pure rfl rfl (fun K hK => ?_); go_simp; refine hK _ ?_; clear hK K; try simp (disch := omega) only [IntWalk.i64_in, IntWalk.u8_in, Int.add_sub_cancel, Int.tmod_eq_emod_of_nonneg, Int.tdiv_eq_ediv_of_nonneg]))
      refine lex_load rfl rfl (.agg x.cells) (fun m W hJ hF => by obtain ⟨c0, c1, c2⟩ := HQ.out.2.below hJ; go_simp) ?_
      refine lex_eff' (sp := fun _ v _ => v = .bool true) rfl rfl (by intro _ _ _ _ h; exact h) (fun m W hJ hF => ?_) (fun v x hh => ?_) rfl
      · refine gives_call Tryd.call53 ((eqFail_ok x W).mono ?_)
        rintro e w' ⟨rfl, h4⟩
        exact ⟨_, rfl, hJ.step h4, h4, rfl⟩
      obtain ⟨_, _, -, rfl, -⟩ := hh
      (repeat (refine lex_pure rfl rfl (fun K hK => ?_); go_simp; refine hK _ ?_; clear hK K; try simp (disch := omega) only [IntWalk.i64_in, IntWalk.u8_in, Int.add_sub_cancel, Int.tmod_eq_emod_of_nonneg, Int.tdiv_eq_ediv_of_nonneg]))
      refine lex_nil (fun m W hJ hF => ?_)
      have H2 := Lib.hid (LeB.tr HR.out hJ)
      clear hF hJ
      go_wp2_with fail
      go_roundw
      case rel => exact ⟨k + 1, by go_num, by omega, H2.out⟩
      case measure => simp [intOf]; omega
    · obtain rfl : k = l.length := by omega
      go_wp2_with fail
      go_ret
      exact ⟨rfl, HR.out⟩
def ExFail.sum (l : List ExFail) : Nat := (l.map ExFail.size).sum
theorem ExFail.sum_take (l : List ExFail) (k : Nat) (h : k < l.length) : ExFail.sum (l.take (k + 1)) = ExFail.sum (l.take k) + l[k].size := by
  unfold ExFail.sum
  rw [List.take_succ_eq_append_getElem h, List.map_append, List.sum_append]
  simp
theorem ExFail.sum_le (l : List ExFail) (k : Nat) : ExFail.sum (l.take k) ≤ ExFail.sum l := by
  have e : ExFail.sum l = ExFail.sum (l.take k) + ExFail.sum (l.drop k) := by
    unfold ExFail.sum
    rw [← List.sum_append, ← List.map_append, List.take_append_drop]
  omega
theorem szFailS_ok (A : Option Addr) (k0 : Nat) (l : List ExFail) (hc : l.length ≤ k0) (hl : l.length ≤ 9223372036854775807) (hs : ∀ x ∈ l, x.Fit) (left : Int) (h0 : 0 ≤ left) (h1 : left ≤ 1048576) (r : Int) (hR : (if ((l.length + ExFail.sum l : Nat) : Int) ≤ left then left - (l.length + ExFail.sum l : Nat) else -1) = r) (w : World) (hr : Rd w A (rowC ExFail.row l)) :
    Calls Tryd.prog 22 #[.slice A l.length k0, .int .i64 left] w fun e w' => e = .returned (.int .i64 r) ∧ LeB w w' := by
  have hlI : (l.length : Int) ≤ 9223372036854775807 := by omega
  have hcI : (l.length : Int) ≤ k0 := by omega
  have HK := Lib.hid (And.intro hr (And.intro hR hs))
  clear hr hR hs
  by_cases c0 : left - (l.length : Int) < 0
  · have hR := HK.out.2.1
    rw [if_neg (by omega)] at hR
    have HR := Lib.hid hR
    clear hR
    go_enter Tryd.func22, Tryd.ntmps22
    go_wp2_with fail
    go_ret
    exact ⟨by rw [← HR.out]; rfl, Below.refl _ _⟩
  · have d0 : decide (left - (l.length : Int) < 0) = false := decide_eq_false c0
    go_enter Tryd.func22, Tryd.ntmps22
    go_wp2_with fail
    go_loopw [1, 5] (fun lv iv wr => ∃ (k : Nat) (q : Int), iv = .int .i64 k ∧ lv = .int .i64 q ∧ k ≤ l.length ∧ q = left - l.length - (ExFail.sum (l.take k) : Nat) ∧ 0 ≤ q ∧ LeB w wr) (fun _ iv _ => (l.length - (intOf iv).toNat))
    case atStart => exact ⟨0, _, rfl, rfl, Nat.zero_le _, by simp [ExFail.sum], by omega, Below.refl _ _⟩
    case round =>
      obtain ⟨k, q, rfl, rfl, hk, hq, hq0, hB⟩ := hrel
      have HR := Lib.hid (And.intro hq hB)
      have hq1 : q ≤ 1048576 := by omega
      clear hq hB
      by_cases hlt : k < l.length
      · have hltI : (k : Int) < l.length := by omega
        obtain ⟨ad1, hA1, q1⟩ := ExFail.At.of (HK.out.1.below HR.out.2 (Nat.le_refl _)) k hlt
        subst hA1
        have hst := ExFail.sum_take l k hlt
        have hsl := ExFail.sum_le l (k + 1)
        have hsx := HK.out.2.2 l[k] (List.getElem_mem hlt)
        obtain ⟨x, hx⟩ : ∃ x, l[k] = x := ⟨_, rfl⟩
        rw [hx] at q1 hst hsx
        clear hx
        have HS := Lib.hid (And.intro hst hsl)
        clear hst hsl
        obtain ⟨p0, p1, p2⟩ := q1
        go_wp2_with fail
        refine (szFail_ok x q hq0 hq1 hsx wr).mono ?_
        rintro e w2 ⟨rfl, hB2⟩
        have H2 := Lib.hid (LeB.tr HR.out.2 hB2)
        clear hB2 p0 p1 p2
        by_cases c1 : (x.size : Int) ≤ q
        · rw [if_pos c1]
          have d1 : decide (q - (x.size : Int) < 0) = false := decide_eq_false (by omega)
          go_wp2_with fail
          go_roundw
          case rel => exact ⟨k + 1, q - x.size, by go_num, rfl, by omega, by rw [HS.out.1]; have := HR.out.1; omega, by omega, H2.out⟩
          case measure => simp [intOf]; omega
        · rw [if_neg c1]
          have hR := HK.out.2.1
          rw [if_neg (by have := HS.out.1; have := HS.out.2; have := HR.out.1; omega)] at hR
          have HR3 := Lib.hid hR
          clear hR
          go_wp2_with fail
          go_ret
          exact ⟨by rw [← HR3.out]; rfl, H2.out⟩
      · obtain rfl : k = l.length := by omega
        have hR := HK.out.2.1
        have hq := HR.out.1
        rw [List.take_length] at hq
        rw [if_pos (by omega)] at hR
        have he : q = r := by omega
        have HE := Lib.hid he
        clear hR hq he
        go_wp2_with fail
        go_ret
        exact ⟨by rw [← HE.out]; rfl, HR.out.2⟩
theorem ExFail.infoz : ∃ (i : TypeInfo) (z : Value), Tryd.prog.info? 100 = some i ∧ i.zero = some z ∧ i.size = 3 ∧ i.bytes ≤ 4096 ∧ z.cells.size = 3 := by
  have h : (match Tryd.prog.info? 100 with | some i => (match i.zero with | some z => i.size == 3 && decide (i.bytes ≤ 4096) && z.cells.size == 3 | none => false) | none => false) = true := by kernel_rfl
  split at h
  · rename_i i hi
    split at h
    · rename_i z hz
      simp only [Bool.and_eq_true, beq_iff_eq, decide_eq_true_eq] at h
      exact ⟨i, z, hi, hz, h.1.1, h.1.2, h.2⟩
    · cases h
  · cases h
theorem toFailS_ok (A : Option Addr) (k0 : Nat) (l : List ExFail) (hc : l.length ≤ k0) (hl : l.length ≤ 1048576) (w : World) (hr : Rd w A (rowC ExFail.row l)) :
    Calls Tryd.prog 26 #[.slice A l.length k0] w fun e w' => ∃ g, e = .returned (.slice (some ⟨g, 0, none⟩) l.length l.length) ∧ w'.ownsRow w.heap.size 100 3 (.slice (some ⟨g, 0, none⟩) l.length l.length) l.length (rowC ExFail.row l) ∧ LeB w w' := by
  obtain ⟨i, z, hi, hz, hsz, hby, hzs⟩ := ExFail.infoz
  have hmk := run_make (P := Tryd.prog) w 25 100 i z Tryd.underlying25 hi hz .i64 .i64 l.length l.length (by omega) (Int.le_refl _) (by have := Nat.mul_le_mul hby hl; omega) (by omega)
  rw [hsz] at hmk
  simp only [Int.toNat_natCast] at hmk
  have hcs : (madeCells z.cells (l.length * 3)).size = l.length * 3 := size_madeCells _ _
  obtain ⟨wa, hwa, hba, hBa⟩ : ∃ x, w.alloc (.cells (madeCells z.cells (l.length * 3)) 100) = x ∧ x.heap[w.heap.size]? = some (.cells (madeCells z.cells (l.length * 3)) 100 (0, 0)) ∧ LeB w x := ⟨_, rfl, heap_alloc_new _ _, (Below.refl _ _).alloc (Nat.le_refl _) _⟩
  rw [hwa] at hmk
  have HK := Lib.hid (And.intro hr (And.intro hl (And.intro hba (And.intro hBa hcs))))
  have hlI : (l.length : Int) ≤ 1048576 := by omega
  have hcI : (l.length : Int) ≤ k0 := by omega
  clear hr hi hz hsz hby hzs hcs hwa hba hBa
  go_enter Tryd.func26, Tryd.ntmps26
  go_wp2_with fail
  clear hmk
  go_loopw [4] (fun iv wr => ∃ (k : Nat) (cur : Array Value), iv = .int .i64 k ∧ k ≤ l.length ∧ wr.heap[w.heap.size]? = some (.cells cur 100 (0, 0)) ∧ cur.size = l.length * 3 ∧ Heads ExFail.row (l.take k) cur ∧ LeB w wr) (fun iv _ => (l.length - (intOf iv).toNat))
  case atStart => exact ⟨0, _, rfl, Nat.zero_le _, HK.out.2.2.1, HK.out.2.2.2.2, ⟨_, by simp [rowC]; rfl⟩, HK.out.2.2.2.1⟩
  case round =>
    obtain ⟨k, cur, rfl, hk, hb, hs, hh, hB⟩ := hrel
    have HR := Lib.hid (And.intro hb (And.intro hs (And.intro hh hB)))
    clear hb hs hh hB
    by_cases hlt : k < l.length
    · have hltI : (k : Int) < l.length := by omega
      obtain ⟨ad1, hA1, q1⟩ := ExFail.At.of (HK.out.1.below HR.out.2.2.2 (Nat.le_refl _)) k hlt
      subst hA1
      have htk := List.take_succ_eq_append_getElem hlt
      obtain ⟨x, hx⟩ : ∃ x, l[k] = x := ⟨_, rfl⟩
      rw [hx] at q1 htk
      have HT := Lib.hid htk
      clear hx htk
      obtain ⟨p0, p1, p2⟩ := q1
      go_wp2_with fail
      refine (toFail_ok x wr).mono ?_
      rintro e w2 ⟨rfl, hB2⟩
      have hz : k * 3 + x.cells.size ≤ cur.size := by show k * 3 + 3 ≤ _; rw [HR.out.2.1]; omega
      have H2 := Lib.hid (And.intro ((hB2.block _ (Array.getElem?_eq_some_iff.1 HR.out.1).1).trans HR.out.1) (And.intro (LeB.tr HR.out.2.2.2 hB2) hz))
      clear hB2 hz p0 p1 p2
      go_wp2_with (refine wpList_store_lay rfl _ _ 100 rfl w.heap.size (k * 3) 100 cur x.cells rfl rfl H2.out.1 H2.out.2.2 ExFail.info rfl ?_)
      go_roundw
      case rel =>
        have hp := HR.out.2.2.1.push ExFail.row_len x
        rw [← HT.out, show (l.take k).length = k from by rw [List.length_take]; omega] at hp
        exact ⟨k + 1, _, by go_num, by omega, setRow_heap _ _ _ _ _ _ H2.out.1, by rw [layC_size _ _ _ H2.out.2.2]; exact HR.out.2.1, hp, below_setRow H2.out.2.1 (Nat.le_refl _) _⟩
      case measure => simp [intOf]; omega
    · obtain rfl : k = l.length := by omega
      have hh := HR.out.2.2.1
      rw [List.take_length] at hh
      have HH := Lib.hid hh
      clear hh
      go_wp2_with fail
      go_ret
      exact ⟨w.heap.size, rfl, heads_own ExFail.row_len (Nat.le_refl _) HR.out.1 (Nat.le_refl _) (by have := HK.out.2.1; simp only [maxLen]; omega) HR.out.2.1 HH.out, HR.out.2.2.2⟩
end Go.Proofs.YtokoijnpbdafgaaDoor
